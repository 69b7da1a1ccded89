/- Joined of: RW7. -/
import Derived.Test.YtkbceeobnbbfbaaDoorG13
/- The walk of Roster. (Printed by gen_rw7.py.) -/
set_option linter.unusedSimpArgs false
set_option linter.unusedVariables false
namespace Go.Proofs.YtkbceeobnbbfbaaDoor.RR
open Go.RowKit CM RG
attribute [local go_sem] alloc_drewN setCell_drewN shape_drewN

def BoxR (w : World) (b : Nat) (X : Bas) (pl : Pl) : Prop := w.heap[b]? = some (.cells #[.string X.nm, .slice X.a1 X.l1 X.c1, .int .i64 X.cl, .slice X.P pl.length X.cP, .slice X.a4 X.l4 X.c4, .slice X.a5 X.l5 X.c5, .slice X.a6 X.l6 X.c6, .slice X.a7 X.l7 X.c7, .slice X.a8 X.l8 X.c8, .slice X.a9 X.l9 X.c9, .int .i64 X.er] 31 (0, 0))
theorem BoxR.cells {w : World} {b : Nat} {X : Bas} {pl : Pl} (h : BoxR w b X pl) : w.cell? ⟨b, 0, none⟩ = some (.string X.nm) ∧ w.cell? ⟨b, 1, none⟩ = some (.slice X.a1 X.l1 X.c1) ∧ w.cell? ⟨b, 2, none⟩ = some (.int .i64 X.cl) ∧ w.cell? ⟨b, 3, none⟩ = some (.slice X.P pl.length X.cP) ∧ w.cell? ⟨b, 4, none⟩ = some (.slice X.a4 X.l4 X.c4) ∧ w.cell? ⟨b, 5, none⟩ = some (.slice X.a5 X.l5 X.c5) ∧ w.cell? ⟨b, 6, none⟩ = some (.slice X.a6 X.l6 X.c6) ∧ w.cell? ⟨b, 7, none⟩ = some (.slice X.a7 X.l7 X.c7) ∧ w.cell? ⟨b, 8, none⟩ = some (.slice X.a8 X.l8 X.c8) ∧ w.cell? ⟨b, 9, none⟩ = some (.slice X.a9 X.l9 X.c9) ∧ w.cell? ⟨b, 10, none⟩ = some (.int .i64 X.er) := by
  have h : w.heap[b]? = _ := h
  refine ⟨?_, ?_, ?_, ?_, ?_, ?_, ?_, ?_, ?_, ?_, ?_⟩ <;> simp [World.cell?, h]
theorem BoxR.below {w w1 : World} {b : Nat} {X : Bas} {pl : Pl} (h : BoxR w b X pl) {B : Nat} (hb : Below B w w1) (hB : b < B) : BoxR w1 b X pl := (hb.block b hB).trans h
def intV (i : Int) : Value := .int .i64 i
def boolV (b : Bool) : Value := .bool b
def idsOf (K : List Dl) : List Int := (grantsOf K).map (·.id)
theorem Tryd.infoDeal : (Tryd.prog.info? 38).map (fun i => (i.zero, i.size, i.bytes)) = some (some (.agg #[.int .i64 0, .int .i64 0, .int .i64 0, .int .i64 0, .int .i64 0, .int .i64 0, .int .i64 0, .int .i64 0, .int .i64 0, .int .i64 0, .int .i64 0, .int .i64 0, .int .i64 0]), 13, 104) := by kernel_rfl
theorem Tryd.zeroDeals (w : World) : (zeroValue 32).run Tryd.prog w = .ok (.slice none 0 0) w := by kernel_rfl
theorem Tryd.zeroBool (w : World) : (zeroValue 4).run Tryd.prog w = .ok (.bool false) w := by kernel_rfl
theorem Tryd.keyInt : KeyX Tryd.prog 3 intV := int_keyX Tryd.underlying3
/-- The middle of Roster: what has been granted, and the deals about each Id. -/
structure RostW (X : Bas) (pl : Pl) (w wr : World) (K : List Dl) (v : Value) (mA : List (Int × Value)) (mG : List (Int × Bool)) : Prop where
  box : BoxR wr w.heap.size X pl
  below : Below w.heap.size w wr
  size : w.heap.size + 3 ≤ wr.heap.size
  own : wr.ownsRow (w.heap.size + 3) 36 9 v (grantsOf K).length (rowR (grantsOf K))
  about : MapRows wr (w.heap.size + 3) (w.heap.size + 1) intV Dl.cells 13 38 mA (fun i => aboutOf i K)
  gr : MapX wr (w.heap.size + 2) intV boolV mG
  gr2 : ∀ i, getX mG i = if i ∈ idsOf K then some true else none
  apart : ∀ i g, (rowX mA i).ownBlock = some g → v.ownBlock ≠ some g
section
variable {X : Bas} {pl : Pl} {w wr w1 w2 w3 : World} {K : List Dl} {v : Value} {mA : List (Int × Value)} {mG : List (Int × Bool)}
theorem RostW.go (h : RostW X pl w wr K v mA mG) (hb : Below wr.heap.size wr w1) : RostW X pl w w1 K v mA mG :=
  ⟨h.box.below hb (by have := h.size; omega), h.below.trans (hb.mono (by have := h.size; omega)), by have := h.size; have := hb.size; omega, row_below h.own hb, h.about.below hb, h.gr.below hb (by have := h.size; omega), h.gr2, h.apart⟩
theorem RostW.same (h : RostW X pl w wr K v mA mG) {K' : List Dl} (h1 : grantsOf K' = grantsOf K) (h2 : ∀ i, aboutOf i K' = aboutOf i K) : RostW X pl w wr K' v mA mG := by
  have e : (fun i => aboutOf i K') = fun i => aboutOf i K := funext h2
  exact ⟨h.box, h.below, h.size, by rw [h1]; exact h.own, by rw [e]; exact h.about, h.gr, fun i => by unfold idsOf; rw [h1]; exact h.gr2 i, h.apart⟩
theorem block_of_grown {b : Nat} {row : Option Nat} (hg : wr.grownBy w1 row) (hb : b < wr.heap.size) (hr : ∀ g, row = some g → w.heap.size + 3 ≤ g) (hlt : b < w.heap.size + 3) : w1.heap[b]? = wr.heap[b]? :=
  hg.block b hb (fun e => by have := hr b e.symm; omega)
theorem below_of_grown {B : Nat} {a : World} {row : Option Nat} (h : Below B a wr) (hg : wr.grownBy w1 row) (hB : B ≤ wr.heap.size) (hr : ∀ g, row = some g → B ≤ g) : Below B a w1 := h.grown hg hB hr
/-- A deal that is no grant is kept. -/
theorem RostW.keepDeal (h : RostW X pl w wr K v mA mG) {d : Dl} (hd : d.kind ≠ 0) {v' : Value} (hg : wr.grownBy w2 (rowX mA d.right.id).ownBlock) (hrow : w2.ownsRow (w.heap.size + 3) 38 13 v' (aboutOf d.right.id K ++ [d]).length ((aboutOf d.right.id K ++ [d]).flatMap Dl.cells))
    (hat : v'.ownBlock = (rowX mA d.right.id).ownBlock ∨ v'.ownBlock = some wr.heap.size) (hm : MapX w3 (w.heap.size + 1) intV id (putX mA d.right.id v')) (hg3 : w2.grownBy w3 (some (w.heap.size + 1))) : RostW X pl w w3 (K ++ [d]) v (putX mA d.right.id v') mG := by
  have hs := h.size
  have hz2 := hg.size
  have hz3 := hg3.size
  have hr : ∀ g, (rowX mA d.right.id).ownBlock = some g → w.heap.size + 3 ≤ g := fun g e => (own_lt (h.about.row _) e).1
  have hgr : grantsOf (K ++ [d]) = grantsOf K := by rw [grantsOf_snoc, if_neg (fun e => hd e.1)]
  have hst := h.about.store d.right.id hg hrow hat hm hg3
  have hA : (fun z => if z = d.right.id then aboutOf d.right.id K ++ [d] else aboutOf z K) = fun z => aboutOf z (K ++ [d]) := by
    funext z
    rw [aboutOf_snoc]
    by_cases e : z = d.right.id
    · subst e; rw [if_pos rfl, if_pos ⟨hd, rfl⟩]
    · rw [if_neg e, if_neg (fun q => e q.2.symm)]
  rw [hA] at hst
  have hv2 : w2.ownsRow (w.heap.size + 3) 36 9 v (grantsOf K).length (rowR (grantsOf K)) := h.own.kept hg (by
    cases e : v.ownBlock with
    | none => exact .inl rfl
    | some g => exact .inr (fun q => h.apart d.right.id g q.symm e))
  have hv3 : w3.ownsRow (w.heap.size + 3) 36 9 v (grantsOf K).length (rowR (grantsOf K)) := hv2.kept hg3 (by
    cases e : v.ownBlock with
    | none => exact .inl rfl
    | some g => exact .inr (fun q => by injection q with q; have := (own_lt hv2 e).1; omega))
  refine ⟨((hg3.block w.heap.size (by omega) (by simp)).trans (hg.block w.heap.size (by omega) (fun e => by have := hr _ e.symm; omega))).trans h.box,
    (h.below.grown hg (by omega) (fun g e => by have := hr g e; omega)).grown hg3 (by omega) (fun g e => by injection e with e; omega), by omega, by rw [hgr]; exact hv3, hst,
    (h.gr.keep (hg.block _ (by omega) (fun e => by have := hr _ e.symm; omega))).keep (hg3.block _ (by omega) (by simp)), fun i => by unfold idsOf; rw [hgr]; exact h.gr2 i, fun i g e => ?_⟩
  rw [rowX_put] at e
  by_cases hi : i = d.right.id
  · rw [if_pos hi] at e
    rcases hat with c | c
    · exact h.apart d.right.id g (c.symm.trans e)
    · rw [c] at e
      injection e with e
      exact fun q => by have := (own_lt h.own q).2; omega
  · rw [if_neg hi] at e
    exact h.apart i g e
/-- A first grant is marked .. -/
theorem RostW.mark (h : RostW X pl w wr K v mA mG) (i : Int) (hm : MapX w2 (w.heap.size + 2) intV boolV (putX mG i true)) (hg : wr.grownBy w2 (some (w.heap.size + 2))) :
    BoxR w2 w.heap.size X pl ∧ Below w.heap.size w w2 ∧ w.heap.size + 3 ≤ w2.heap.size ∧ w2.ownsRow (w.heap.size + 3) 36 9 v (grantsOf K).length (rowR (grantsOf K)) ∧ MapRows w2 (w.heap.size + 3) (w.heap.size + 1) intV Dl.cells 13 38 mA (fun i => aboutOf i K) := by
  have hs := h.size
  have hz := hg.size
  refine ⟨(hg.block w.heap.size (by omega) (by simp)).trans h.box, h.below.grown hg (by omega) (fun g e => by injection e with e; omega), by omega, h.own.kept hg ?_, ⟨h.about.map.keep (hg.block _ (by omega) (by simp)), h.about.hb, fun x => (h.about.row x).kept hg ?_, h.about.apart⟩⟩
  · cases e : v.ownBlock with
    | none => exact .inl rfl
    | some g => exact .inr (fun q => by injection q with q; have := (own_lt h.own e).1; omega)
  · cases e : (rowX mA x).ownBlock with
    | none => exact .inl rfl
    | some g => exact .inr (fun q => by injection q with q; have := (own_lt (h.about.row x) e).1; omega)
/-- .. and kept. -/
theorem RostW.keepGrant (h : RostW X pl w wr K v mA mG) {d : Dl} (hd : d.kind = 0) (hn : d.right.id ∉ idsOf K) (hm : MapX w2 (w.heap.size + 2) intV boolV (putX mG d.right.id true)) (hg2 : wr.grownBy w2 (some (w.heap.size + 2))) {o : Obj} {v' : Value}
    (hg : (w2.alloc o).grownBy w3 v.ownBlock) (hrow : w3.ownsRow (w.heap.size + 3) 36 9 v' (grantsOf K ++ [d.right]).length (rowR (grantsOf K ++ [d.right]))) (hat : v'.ownBlock = v.ownBlock ∨ v'.ownBlock = some (w2.alloc o).heap.size) : RostW X pl w w3 (K ++ [d]) v' mA (putX mG d.right.id true) := by
  obtain ⟨b1, b2, b3, b4, b5⟩ := h.mark _ hm hg2
  have hgr : grantsOf (K ++ [d]) = grantsOf K ++ [d.right] := by rw [grantsOf_snoc, if_pos ⟨hd, hn⟩]
  have hab : (fun i => aboutOf i (K ++ [d])) = fun i => aboutOf i K := by funext i; rw [aboutOf_snoc, if_neg (fun e => e.1 hd)]
  have ha : Below w2.heap.size w2 (w2.alloc o) := below_new w2 o
  have hz := hg.size
  simp at hz
  have hr : ∀ g, v.ownBlock = some g → w.heap.size + 3 ≤ g := fun g e => (own_lt h.own e).1
  refine ⟨(hg.block w.heap.size (by simp; omega) (fun e => by have := hr _ e.symm; omega)).trans (b1.below ha (by omega)), (b2.trans (ha.mono (by omega))).grown hg (by simp; omega) (fun g e => by have := hr g e; omega), by omega, by rw [hgr]; exact hrow, ?_, ?_, fun i => ?_, fun i g e => ?_⟩
  · rw [hab]
    exact (b5.below ha).grown hg hr (fun x g e => h.apart x g e)
  · exact (hm.below ha hm.lt).keep (hg.block _ (by simp; omega) (fun e => by have := hr _ e.symm; omega))
  · rw [getX_put, h.gr2]
    unfold idsOf
    rw [hgr, List.map_append]
    by_cases hi : i = d.right.id
    · subst hi; simp
    · rw [if_neg hi]; simp [hi]
  · rcases hat with c | c
    · rw [c]; exact h.apart i g e
    · rw [c]
      intro q
      injection q with q
      have := (own_lt (b5.row i) e).2
      simp at q
      omega
end
theorem counted_snoc' {no np : Nat} {day known : Int} {L : List Dl} {k : Nat} {d : Dl} (h : L[k]? = some d) : counted no np day known (L.take (k + 1)) = counted no np day known (L.take k) ++ (if d.known ≤ known ∧ appB no np day d = true then [d] else []) := by
  rw [take_snoc_d h, counted_snoc]
theorem counted_len {no np : Nat} {day known : Int} (L : List Dl) (k : Nat) : (counted no np day known (L.take k)).length ≤ L.length :=
  Nat.le_trans (List.length_filter_le _ _) (by rw [List.length_take]; omega)
def DlsIn (L : List Dl) : Prop := ∀ d ∈ L, RtIn d.right
set_option maxRecDepth 100000 in
set_option maxHeartbeats 8000000 in
theorem roster_any (X : Bas) (pl : Pl) (L : List Dl) (C : Option Addr) (cc : Nat) (day known : Int) (w : World) {B : Nat} (hM : Months w) (hC : DealsAt w B C L) (hB : B ≤ w.heap.size) (hl : L.length ≤ 100) (hI : DlsIn L) :
    Calls Tryd.prog 6 #[.agg #[.string X.nm, .slice X.a1 X.l1 X.c1, .int .i64 X.cl, .slice X.P pl.length X.cP, .slice X.a4 X.l4 X.c4, .slice X.a5 X.l5 X.c5, .slice X.a6 X.l6 X.c6, .slice X.a7 X.l7 X.c7, .slice X.a8 X.l8 X.c8, .slice X.a9 X.l9 X.c9, .int .i64 X.er], .slice C L.length cc, .int .i64 day, .int .i64 known] w (RightsRes (rosterR X.l1 pl.length day known L) w) := by
  obtain ⟨i0, hi, hz0, hz1, hz2⟩ := info_parts Tryd.infoRight
  obtain ⟨j0, hj, hy0, hy1, hy2⟩ := info_parts Tryd.infoDeal
  obtain ⟨Kf, hKf⟩ : ∃ f : Nat → List Dl, f = fun k => counted X.l1 pl.length day known (L.take k) := ⟨_, rfl⟩
  have hK0 : Hid (Kf 0 = []) := by show _ = _; rw [hKf]; rfl
  have hKs : Hid (∀ k d, L[k]? = some d → Kf (k + 1) = Kf k ++ (if d.known ≤ known ∧ appB X.l1 pl.length day d = true then [d] else [])) := fun k d h => by rw [hKf]; exact counted_snoc' h
  have hKl : Hid (∀ k, (Kf k).length ≤ L.length) := fun k => by rw [hKf]; exact counted_len L k
  have hKe : Hid (rosterR X.l1 pl.length day known L = orderR (rowsR day (Kf L.length))) := by show _ = _; rw [hKf]; unfold rosterR; simp only [List.take_length]
  have hKi : Hid (∀ k, ∀ d ∈ Kf k, RtIn d.right) := fun k d h => by rw [hKf] at h; exact hI d (List.mem_of_mem_take (List.mem_filter.1 h).1)
  clear hKf
  have hm0 := hM.pos
  have hmm := @run_makeMap Tryd.prog
  go_enter Tryd.func6, Tryd.ntmps6
  go_wp2_with fail
  clear hmm
  have hstart : RostW X pl w (((w.alloc (.cells #[.string X.nm, .slice X.a1 X.l1 X.c1, .int .i64 X.cl, .slice X.P pl.length X.cP, .slice X.a4 X.l4 X.c4, .slice X.a5 X.l5 X.c5, .slice X.a6 X.l6 X.c6, .slice X.a7 X.l7 X.c7, .slice X.a8 X.l8 X.c8, .slice X.a9 X.l9 X.c9, .int .i64 X.er] 31)).alloc (.map #[] 0)).alloc (.map #[] 0)) (Kf 0) (.slice none 0 0) [] [] := by
    rw [hK0.out]
    refine ⟨?_, (((Below.refl _ _).alloc (Nat.le_refl _) _).alloc (by simp) _).alloc (by simp <;> omega) _, by simp, World.ownsRow_nil _ _ _ _, ?_, ?_, fun i => rfl, fun i g h => by simp [rowX, getX, Value.ownBlock] at h⟩
    · exact (Below.heap_alloc _ _ _ (by simp <;> omega)).trans ((Below.heap_alloc _ _ _ (by simp)).trans (heap_alloc_new w _))
    · have h := MapRows.made (w.alloc (.cells #[.string X.nm, .slice X.a1 X.l1 X.c1, .int .i64 X.cl, .slice X.P pl.length X.cP, .slice X.a4 X.l4 X.c4, .slice X.a5 X.l5 X.c5, .slice X.a6 X.l6 X.c6, .slice X.a7 X.l7 X.c7, .slice X.a8 X.l8 X.c8, .slice X.a9 X.l9 X.c9, .int .i64 X.er] 31)) (w.heap.size + 3) intV Dl.cells 13 38 (by simp <;> omega)
      rw [World.size_alloc] at h
      exact h.below (below_new _ _)
    · have h := MapX.made ((w.alloc (.cells #[.string X.nm, .slice X.a1 X.l1 X.c1, .int .i64 X.cl, .slice X.P pl.length X.cP, .slice X.a4 X.l4 X.c4, .slice X.a5 X.l5 X.c5, .slice X.a6 X.l6 X.c6, .slice X.a7 X.l7 X.c7, .slice X.a8 X.l8 X.c8, .slice X.a9 X.l9 X.c9, .int .i64 X.er] 31)).alloc (.map #[] 0)) intV boolV
      simp only [World.size_alloc] at h
      exact h
  go_loopw [11, 24] (fun v i wr => ∃ (k : Nat) (mA : List (Int × Value)) (mG : List (Int × Bool)), k ≤ L.length ∧ i = .int .i64 k ∧ Hid (RostW X pl w wr (Kf k) v mA mG)) (fun _ i _ => L.length - (intOf i).toNat)
  case atStart => exact ⟨0, [], [], Nat.zero_le _, rfl, hstart⟩
  case round =>
    clear hstart
    obtain ⟨k, mA, mG, hk, rfl, hW⟩ := hrel
    have hsz := hW.out.size
    have hBw := hW.out.below
    by_cases hlt : k < L.length
    · obtain ⟨d, hx⟩ : ∃ e, L[k]? = some e := ⟨_, List.getElem?_eq_getElem hlt⟩
      obtain ⟨b, off, rfl, hb, c0, c1, c2, c3, c4, c5, c6, c7, c8, c9, c10, c11, c12⟩ := (hC.below (hBw.mono hB)).at_ hx
      have hbw : b < wr.heap.size := by omega
      have hKn := Lib.hid (hKs.out k d hx)
      have hdI := hI d (List.mem_of_getElem? hx)
      clear hx
      obtain ⟨x0, x1, x2, x3, x4, x5, x6, x7, x8, x9, x10⟩ := hW.out.box.cells
      have z0 : w.heap.size < wr.heap.size := by omega
      have hba : Below wr.heap.size wr (wr.alloc (.cells #[.int .i64 d.kind, .int .i64 d.known, .int .i64 d.right.id, .int .i64 d.right.owner, .int .i64 d.right.date, .int .i64 d.right.place, .int .i64 d.right.rate, .int .i64 d.right.from1, .int .i64 d.right.until1, .int .i64 d.right.back, .int .i64 d.right.backTo, .int .i64 d.from1, .int .i64 d.until1] 38)) := below_new _ _
      have hWa := Lib.hid (hW.out.go hba)
      have hBa := hWa.out.below
      by_cases hkn : d.known ≤ known
      case neg =>
        have hN : Hid (Kf (k + 1) = Kf k) := by show _ = _; rw [hKn.out, if_neg (fun e => hkn e.1), List.append_nil]
        have d1 : decide (known < d.known) = true := decide_eq_true (by omega)
        clear hKn x0 x1 x2 x3 x4 x5 x6 x7 x8 x9 x10
        go_wp2_with fail
        go_roundw
        case rel => exact ⟨k + 1, mA, mG, by omega, by go_num, by rw [hN.out]; exact hWa⟩
        case measure => simp [intOf]; omega
      have d1 : decide (known < d.known) = false := decide_eq_false (by omega)
      have KA : Hid (Calls Tryd.prog 17 #[.agg #[.string X.nm, .slice X.a1 X.l1 X.c1, .int .i64 X.cl, .slice X.P pl.length X.cP, .slice X.a4 X.l4 X.c4, .slice X.a5 X.l5 X.c5, .slice X.a6 X.l6 X.c6, .slice X.a7 X.l7 X.c7, .slice X.a8 X.l8 X.c8, .slice X.a9 X.l9 X.c9, .int .i64 X.er], .agg #[.int .i64 d.kind, .int .i64 d.known, .int .i64 d.right.id, .int .i64 d.right.owner, .int .i64 d.right.date, .int .i64 d.right.place, .int .i64 d.right.rate, .int .i64 d.right.from1, .int .i64 d.right.until1, .int .i64 d.right.back, .int .i64 d.right.backTo, .int .i64 d.from1, .int .i64 d.until1], .int .i64 day] (wr.alloc (.cells #[.int .i64 d.kind, .int .i64 d.known, .int .i64 d.right.id, .int .i64 d.right.owner, .int .i64 d.right.date, .int .i64 d.right.place, .int .i64 d.right.rate, .int .i64 d.right.from1, .int .i64 d.right.until1, .int .i64 d.right.back, .int .i64 d.right.backTo, .int .i64 d.from1, .int .i64 d.until1] 38)) (BoolIs (appB X.l1 pl.length day d) (wr.alloc (.cells #[.int .i64 d.kind, .int .i64 d.known, .int .i64 d.right.id, .int .i64 d.right.owner, .int .i64 d.right.date, .int .i64 d.right.place, .int .i64 d.right.rate, .int .i64 d.right.from1, .int .i64 d.right.until1, .int .i64 d.right.back, .int .i64 d.right.backTo, .int .i64 d.from1, .int .i64 d.until1] 38)))) := applies_any X pl d day _ (hM.below hm0 hBa) hdI
      cases hap : appB X.l1 pl.length day d with
      | false =>
        have hN : Hid (Kf (k + 1) = Kf k) := by show _ = _; rw [hKn.out, if_neg (fun e => by rw [hap] at e; exact Bool.false_ne_true e.2), List.append_nil]
        rw [hap] at KA
        clear hKn hap
        go_wp2_with (first | (go_at_call 17; (with_reducible refine KA.out.mono ?_); rintro e1 w1 ⟨rfl, hb1⟩) | fail)
        go_roundw
        case rel => exact ⟨k + 1, mA, mG, by omega, by go_num, by rw [hN.out]; exact hWa.out.go hb1⟩
        case measure => simp [intOf]; omega
      | true =>
        have hN : Hid (Kf (k + 1) = Kf k ++ [d]) := by show _ = _; rw [hKn.out, if_pos ⟨hkn, hap⟩]
        rw [hap] at KA
        clear hKn hap
        have hlen := hKl.out k
        by_cases hk0 : d.kind = 0
        · have e0 : (d.kind != 0) = false := by simpa using hk0
          by_cases hid : d.right.id ∈ idsOf (Kf k)
          · have HS : Hid (grantsOf (Kf (k + 1)) = grantsOf (Kf k) ∧ ∀ i, aboutOf i (Kf (k + 1)) = aboutOf i (Kf k)) := ⟨by rw [hN.out, grantsOf_snoc, if_neg (fun e => e.2 hid)], fun i => by rw [hN.out, aboutOf_snoc, if_neg (fun e => e.1 hk0)]⟩
            clear hk0
            go_wp2_with fail
            go_at_call 17
            (with_reducible refine KA.out.mono ?_)
            rintro e1 w1 ⟨rfl, hb1⟩
            have HW1 := Lib.hid (hWa.out.go hb1)
            have hz1' := hb1.size
            rw [World.size_alloc] at hz1'
            have hzz : wr.heap.size < w1.heap.size := by omega
            have f0 := (hb1.cell (p := ⟨wr.heap.size, 0, none⟩) (by rw [World.size_alloc]; exact Nat.lt_succ_self _)).trans (show _ = some (.int .i64 d.kind) by rw [World.cell?_alloc_at _ _ _ _ rfl]; rfl)
            have f1 := (hb1.cell (p := ⟨wr.heap.size, 1, none⟩) (by rw [World.size_alloc]; exact Nat.lt_succ_self _)).trans (show _ = some (.int .i64 d.known) by rw [World.cell?_alloc_at _ _ _ _ rfl]; rfl)
            have f2 := (hb1.cell (p := ⟨wr.heap.size, 2, none⟩) (by rw [World.size_alloc]; exact Nat.lt_succ_self _)).trans (show _ = some (.int .i64 d.right.id) by rw [World.cell?_alloc_at _ _ _ _ rfl]; rfl)
            have f3 := (hb1.cell (p := ⟨wr.heap.size, 3, none⟩) (by rw [World.size_alloc]; exact Nat.lt_succ_self _)).trans (show _ = some (.int .i64 d.right.owner) by rw [World.cell?_alloc_at _ _ _ _ rfl]; rfl)
            have f4 := (hb1.cell (p := ⟨wr.heap.size, 4, none⟩) (by rw [World.size_alloc]; exact Nat.lt_succ_self _)).trans (show _ = some (.int .i64 d.right.date) by rw [World.cell?_alloc_at _ _ _ _ rfl]; rfl)
            have f5 := (hb1.cell (p := ⟨wr.heap.size, 5, none⟩) (by rw [World.size_alloc]; exact Nat.lt_succ_self _)).trans (show _ = some (.int .i64 d.right.place) by rw [World.cell?_alloc_at _ _ _ _ rfl]; rfl)
            have f6 := (hb1.cell (p := ⟨wr.heap.size, 6, none⟩) (by rw [World.size_alloc]; exact Nat.lt_succ_self _)).trans (show _ = some (.int .i64 d.right.rate) by rw [World.cell?_alloc_at _ _ _ _ rfl]; rfl)
            have f7 := (hb1.cell (p := ⟨wr.heap.size, 7, none⟩) (by rw [World.size_alloc]; exact Nat.lt_succ_self _)).trans (show _ = some (.int .i64 d.right.from1) by rw [World.cell?_alloc_at _ _ _ _ rfl]; rfl)
            have f8 := (hb1.cell (p := ⟨wr.heap.size, 8, none⟩) (by rw [World.size_alloc]; exact Nat.lt_succ_self _)).trans (show _ = some (.int .i64 d.right.until1) by rw [World.cell?_alloc_at _ _ _ _ rfl]; rfl)
            have f9 := (hb1.cell (p := ⟨wr.heap.size, 9, none⟩) (by rw [World.size_alloc]; exact Nat.lt_succ_self _)).trans (show _ = some (.int .i64 d.right.back) by rw [World.cell?_alloc_at _ _ _ _ rfl]; rfl)
            have f10 := (hb1.cell (p := ⟨wr.heap.size, 10, none⟩) (by rw [World.size_alloc]; exact Nat.lt_succ_self _)).trans (show _ = some (.int .i64 d.right.backTo) by rw [World.cell?_alloc_at _ _ _ _ rfl]; rfl)
            have f11 := (hb1.cell (p := ⟨wr.heap.size, 11, none⟩) (by rw [World.size_alloc]; exact Nat.lt_succ_self _)).trans (show _ = some (.int .i64 d.from1) by rw [World.cell?_alloc_at _ _ _ _ rfl]; rfl)
            have f12 := (hb1.cell (p := ⟨wr.heap.size, 12, none⟩) (by rw [World.size_alloc]; exact Nat.lt_succ_self _)).trans (show _ = some (.int .i64 d.until1) by rw [World.cell?_alloc_at _ _ _ _ rfl]; rfl)
            clear hb1 x0 x1 x2 x3 x4 x5 x6 x7 x8 x9 x10 KA hba
            have hlk := HW1.out.gr.lookup Tryd.keyInt Tryd.underlying58 (Tryd.zeroBool w1) d.right.id
            rw [HW1.out.gr2, if_pos hid] at hlk
            simp only [intV, boolV, Option.map, Option.getD] at hlk
            clear hid
            go_wp2_with fail
            go_roundw
            case rel => exact ⟨k + 1, mA, mG, by omega, by go_num, HW1.out.same HS.out.1 HS.out.2⟩
            case measure => simp [intOf]; omega
          · have HK0 := Lib.hid hk0
            clear hk0
            go_wp2_with fail
            go_at_call 17
            (with_reducible refine KA.out.mono ?_)
            rintro e1 w1 ⟨rfl, hb1⟩
            have HW1 := Lib.hid (hWa.out.go hb1)
            have hz1' := hb1.size
            rw [World.size_alloc] at hz1'
            have hzz : wr.heap.size < w1.heap.size := by omega
            have f0 := (hb1.cell (p := ⟨wr.heap.size, 0, none⟩) (by rw [World.size_alloc]; exact Nat.lt_succ_self _)).trans (show _ = some (.int .i64 d.kind) by rw [World.cell?_alloc_at _ _ _ _ rfl]; rfl)
            have f1 := (hb1.cell (p := ⟨wr.heap.size, 1, none⟩) (by rw [World.size_alloc]; exact Nat.lt_succ_self _)).trans (show _ = some (.int .i64 d.known) by rw [World.cell?_alloc_at _ _ _ _ rfl]; rfl)
            have f2 := (hb1.cell (p := ⟨wr.heap.size, 2, none⟩) (by rw [World.size_alloc]; exact Nat.lt_succ_self _)).trans (show _ = some (.int .i64 d.right.id) by rw [World.cell?_alloc_at _ _ _ _ rfl]; rfl)
            have f3 := (hb1.cell (p := ⟨wr.heap.size, 3, none⟩) (by rw [World.size_alloc]; exact Nat.lt_succ_self _)).trans (show _ = some (.int .i64 d.right.owner) by rw [World.cell?_alloc_at _ _ _ _ rfl]; rfl)
            have f4 := (hb1.cell (p := ⟨wr.heap.size, 4, none⟩) (by rw [World.size_alloc]; exact Nat.lt_succ_self _)).trans (show _ = some (.int .i64 d.right.date) by rw [World.cell?_alloc_at _ _ _ _ rfl]; rfl)
            have f5 := (hb1.cell (p := ⟨wr.heap.size, 5, none⟩) (by rw [World.size_alloc]; exact Nat.lt_succ_self _)).trans (show _ = some (.int .i64 d.right.place) by rw [World.cell?_alloc_at _ _ _ _ rfl]; rfl)
            have f6 := (hb1.cell (p := ⟨wr.heap.size, 6, none⟩) (by rw [World.size_alloc]; exact Nat.lt_succ_self _)).trans (show _ = some (.int .i64 d.right.rate) by rw [World.cell?_alloc_at _ _ _ _ rfl]; rfl)
            have f7 := (hb1.cell (p := ⟨wr.heap.size, 7, none⟩) (by rw [World.size_alloc]; exact Nat.lt_succ_self _)).trans (show _ = some (.int .i64 d.right.from1) by rw [World.cell?_alloc_at _ _ _ _ rfl]; rfl)
            have f8 := (hb1.cell (p := ⟨wr.heap.size, 8, none⟩) (by rw [World.size_alloc]; exact Nat.lt_succ_self _)).trans (show _ = some (.int .i64 d.right.until1) by rw [World.cell?_alloc_at _ _ _ _ rfl]; rfl)
            have f9 := (hb1.cell (p := ⟨wr.heap.size, 9, none⟩) (by rw [World.size_alloc]; exact Nat.lt_succ_self _)).trans (show _ = some (.int .i64 d.right.back) by rw [World.cell?_alloc_at _ _ _ _ rfl]; rfl)
            have f10 := (hb1.cell (p := ⟨wr.heap.size, 10, none⟩) (by rw [World.size_alloc]; exact Nat.lt_succ_self _)).trans (show _ = some (.int .i64 d.right.backTo) by rw [World.cell?_alloc_at _ _ _ _ rfl]; rfl)
            have f11 := (hb1.cell (p := ⟨wr.heap.size, 11, none⟩) (by rw [World.size_alloc]; exact Nat.lt_succ_self _)).trans (show _ = some (.int .i64 d.from1) by rw [World.cell?_alloc_at _ _ _ _ rfl]; rfl)
            have f12 := (hb1.cell (p := ⟨wr.heap.size, 12, none⟩) (by rw [World.size_alloc]; exact Nat.lt_succ_self _)).trans (show _ = some (.int .i64 d.until1) by rw [World.cell?_alloc_at _ _ _ _ rfl]; rfl)
            clear hb1 x0 x1 x2 x3 x4 x5 x6 x7 x8 x9 x10 KA hba
            have hlk := HW1.out.gr.lookup Tryd.keyInt Tryd.underlying58 (Tryd.zeroBool w1) d.right.id
            rw [HW1.out.gr2, if_neg hid] at hlk
            simp only [intV, boolV, Option.map, Option.getD] at hlk
            have HID := Lib.hid hid
            clear hid
            have hgl : (grantsOf (Kf k)).length ≤ L.length := Nat.le_trans (grantsOf_len _) hlen
            go_wp2_with (first | (at_mapUpdate; (refine wpList_putX _ rfl _ _ _ 58 rfl 3 4 Tryd.keyInt Tryd.underlying58 (w.heap.size + 2) mG rfl HW1.out.gr d.right.id true rfl rfl ?_); intro w2 hM2 hg2; obtain ⟨m1, m2, m3, m4, m5⟩ := HW1.out.mark _ hM2 hg2; have fg2 : ∀ b o, b < w1.heap.size → b ≠ w.heap.size + 2 → w2.cell? ⟨b, o, none⟩ = w1.cell? ⟨b, o, none⟩ := fun b o h1 h2 => Plan.grown_cells hg2 b o h1 (fun e => h2 (by injection e)); have h2 := (fg2 wr.heap.size 2 hzz (by omega)).trans f2; have h3 := (fg2 wr.heap.size 3 hzz (by omega)).trans f3; have h4 := (fg2 wr.heap.size 4 hzz (by omega)).trans f4; have h5 := (fg2 wr.heap.size 5 hzz (by omega)).trans f5; have h6 := (fg2 wr.heap.size 6 hzz (by omega)).trans f6; have h7 := (fg2 wr.heap.size 7 hzz (by omega)).trans f7; have h8 := (fg2 wr.heap.size 8 hzz (by omega)).trans f8; have h9 := (fg2 wr.heap.size 9 hzz (by omega)).trans f9; have h10 := (fg2 wr.heap.size 10 hzz (by omega)).trans f10; clear f0 f1 f2 f3 f4 f5 f6 f7 f8 f9 f10 f11 f12) | (at_builtin; go_loud (refine wpList_append_any _ rfl _ _ 39 rfl (w.heap.size + 3) 36 i0 _ 9 72 Tryd.underlying39 hi hz0 hz1 hz2 rfl (by decide) _ (grantsOf (Kf k)).length _ rfl (m4.alloc _) (w2.heap.size + 1) (some ⟨w2.heap.size, 0, none⟩) 1 1 d.right.cells rfl ⟨rfl, fun _ => ⟨_, rfl, Nat.lt_succ_self _, cells_at rfl _ _⟩⟩ (rt_one _) (by unfold maxLen; omega) (by omega) (by simp; omega) ?_); intro v' w3 hown3 hgr3 hat3) | fail)
            go_roundw
            case rel =>
              refine ⟨k + 1, mA, putX mG d.right.id true, by omega, by go_num, ?_⟩
              rw [hN.out]
              exact HW1.out.keepGrant HK0.out HID.out hM2 hg2 hgr3 (by rw [List.length_append, rowR_snoc]; exact hown3) hat3
            case measure => simp [intOf]; omega
        · have e0 : (d.kind != 0) = true := by simpa using hk0
          have HK0 := Lib.hid hk0
          clear hk0
          go_wp2_with fail
          go_at_call 17
          (with_reducible refine KA.out.mono ?_)
          rintro e1 w1 ⟨rfl, hb1⟩
          have HW1 := Lib.hid (hWa.out.go hb1)
          have hz1' := hb1.size
          rw [World.size_alloc] at hz1'
          have hzz : wr.heap.size < w1.heap.size := by omega
          have f0 := (hb1.cell (p := ⟨wr.heap.size, 0, none⟩) (by rw [World.size_alloc]; exact Nat.lt_succ_self _)).trans (show _ = some (.int .i64 d.kind) by rw [World.cell?_alloc_at _ _ _ _ rfl]; rfl)
          have f1 := (hb1.cell (p := ⟨wr.heap.size, 1, none⟩) (by rw [World.size_alloc]; exact Nat.lt_succ_self _)).trans (show _ = some (.int .i64 d.known) by rw [World.cell?_alloc_at _ _ _ _ rfl]; rfl)
          have f2 := (hb1.cell (p := ⟨wr.heap.size, 2, none⟩) (by rw [World.size_alloc]; exact Nat.lt_succ_self _)).trans (show _ = some (.int .i64 d.right.id) by rw [World.cell?_alloc_at _ _ _ _ rfl]; rfl)
          have f3 := (hb1.cell (p := ⟨wr.heap.size, 3, none⟩) (by rw [World.size_alloc]; exact Nat.lt_succ_self _)).trans (show _ = some (.int .i64 d.right.owner) by rw [World.cell?_alloc_at _ _ _ _ rfl]; rfl)
          have f4 := (hb1.cell (p := ⟨wr.heap.size, 4, none⟩) (by rw [World.size_alloc]; exact Nat.lt_succ_self _)).trans (show _ = some (.int .i64 d.right.date) by rw [World.cell?_alloc_at _ _ _ _ rfl]; rfl)
          have f5 := (hb1.cell (p := ⟨wr.heap.size, 5, none⟩) (by rw [World.size_alloc]; exact Nat.lt_succ_self _)).trans (show _ = some (.int .i64 d.right.place) by rw [World.cell?_alloc_at _ _ _ _ rfl]; rfl)
          have f6 := (hb1.cell (p := ⟨wr.heap.size, 6, none⟩) (by rw [World.size_alloc]; exact Nat.lt_succ_self _)).trans (show _ = some (.int .i64 d.right.rate) by rw [World.cell?_alloc_at _ _ _ _ rfl]; rfl)
          have f7 := (hb1.cell (p := ⟨wr.heap.size, 7, none⟩) (by rw [World.size_alloc]; exact Nat.lt_succ_self _)).trans (show _ = some (.int .i64 d.right.from1) by rw [World.cell?_alloc_at _ _ _ _ rfl]; rfl)
          have f8 := (hb1.cell (p := ⟨wr.heap.size, 8, none⟩) (by rw [World.size_alloc]; exact Nat.lt_succ_self _)).trans (show _ = some (.int .i64 d.right.until1) by rw [World.cell?_alloc_at _ _ _ _ rfl]; rfl)
          have f9 := (hb1.cell (p := ⟨wr.heap.size, 9, none⟩) (by rw [World.size_alloc]; exact Nat.lt_succ_self _)).trans (show _ = some (.int .i64 d.right.back) by rw [World.cell?_alloc_at _ _ _ _ rfl]; rfl)
          have f10 := (hb1.cell (p := ⟨wr.heap.size, 10, none⟩) (by rw [World.size_alloc]; exact Nat.lt_succ_self _)).trans (show _ = some (.int .i64 d.right.backTo) by rw [World.cell?_alloc_at _ _ _ _ rfl]; rfl)
          have f11 := (hb1.cell (p := ⟨wr.heap.size, 11, none⟩) (by rw [World.size_alloc]; exact Nat.lt_succ_self _)).trans (show _ = some (.int .i64 d.from1) by rw [World.cell?_alloc_at _ _ _ _ rfl]; rfl)
          have f12 := (hb1.cell (p := ⟨wr.heap.size, 12, none⟩) (by rw [World.size_alloc]; exact Nat.lt_succ_self _)).trans (show _ = some (.int .i64 d.until1) by rw [World.cell?_alloc_at _ _ _ _ rfl]; rfl)
          clear hb1 x0 x1 x2 x3 x4 x5 x6 x7 x8 x9 x10 KA hba
          have hlk := HW1.out.about.lookup Tryd.keyInt Tryd.underlying57 (Tryd.zeroDeals w1) d.right.id
          simp only [intV] at hlk
          have hal : (aboutOf d.right.id (Kf k)).length ≤ L.length := Nat.le_trans (aboutOf_len _ _) hlen
          have HW2 := Lib.hid (HW1.out.go (below_new w1 (.cells #[.int .i64 d.kind, .int .i64 d.known, .int .i64 d.right.id, .int .i64 d.right.owner, .int .i64 d.right.date, .int .i64 d.right.place, .int .i64 d.right.rate, .int .i64 d.right.from1, .int .i64 d.right.until1, .int .i64 d.right.back, .int .i64 d.right.backTo, .int .i64 d.from1, .int .i64 d.until1] 38)))
          go_wp2_with (first | (at_builtin; go_loud (refine wpList_append_any _ rfl _ _ 32 rfl (w.heap.size + 3) 38 j0 _ 13 104 Tryd.underlying32 hj hy0 hy1 hy2 rfl (by decide) _ (aboutOf d.right.id (Kf k)).length _ rfl (HW2.out.about.row d.right.id) (w1.heap.size + 1) (some ⟨w1.heap.size, 0, none⟩) 1 1 d.cells rfl ⟨rfl, fun _ => ⟨_, rfl, Nat.lt_succ_self _, cells_at rfl _ _⟩⟩ (dl_one _) (by unfold maxLen; omega) (by omega) (by simp; omega) ?_); intro v' w2 hown2 hgr2 hat2; have hM2 := HW2.out.about.map.keep (hgr2.block (w.heap.size + 1) HW2.out.about.map.lt (fun e => by have := (own_lt (HW2.out.about.row d.right.id) e.symm).1; omega))) | (at_mapUpdate; (refine wpList_putX _ rfl _ _ _ 57 rfl 3 32 Tryd.keyInt Tryd.underlying57 (w.heap.size + 1) mA rfl hM2 d.right.id v' rfl rfl ?_); intro w3 hM3 hg3) | fail)
          go_roundw
          case rel =>
            refine ⟨k + 1, putX mA d.right.id v', mG, by omega, by go_num, ?_⟩
            rw [hN.out]
            exact HW2.out.keepDeal HK0.out hgr2 (by rw [List.length_append, List.flatMap_append]; simpa using hown2) hat2 hM3 hg3
          case measure => simp [intOf]; omega
    · have hke : k = L.length := by omega
      subst hke
      obtain ⟨wo, rfl⟩ : ∃ wo, wo = wr := ⟨_, rfl⟩
      have hKl2 := hKl.out L.length
      have hKi2 := hKi.out L.length
      obtain ⟨K, hKK⟩ : ∃ K, K = Kf L.length := ⟨_, rfl⟩
      rw [← hKK] at hW hKl2 hKi2 hKe
      clear hKK hK0 hKs hKl hKi
      obtain ⟨D, cd, hv, hD, _⟩ := rowk_of_owns rt_len hW.out.own
      have hgl : (grantsOf K).length ≤ 100 := Nat.le_trans (grantsOf_len _) (by omega)
      have HGI : Hid (∀ r ∈ grantsOf K, RtIn r) := fun r hr => by
        obtain ⟨d, h1, _, rfl⟩ := grantsOf_mem hr
        exact hKi2 d h1
      have hD : RightsAt wo wo.heap.size D (grantsOf K) := hD
      have HOE : Hid (rowsR day K = outT day K (grantsOf K)) := outT_all day K
      rw [HOE.out] at hKe
      obtain ⟨G, hG⟩ : ∃ G, G = grantsOf K := ⟨_, rfl⟩
      rw [← hG] at hv hD hgl HGI hKe
      have HG := Lib.hid hG
      clear hG HOE hKi2
      subst hv
      obtain ⟨acc, hacc⟩ : ∃ f : Nat → List Rt, f = fun k => outT day K (G.take k) := ⟨_, rfl⟩
      have hA0 : Hid (acc 0 = []) := by show _ = _; rw [hacc]; rfl
      have hAs : Hid (∀ k g, G[k]? = some g → acc (k + 1) = if seasonB g day = true ∧ endedB K g.id = false then acc k ++ [changed K g] else acc k) := fun k g h => by rw [hacc]; show outT day K (G.take (k + 1)) = _; rw [List.take_add_one, h]; exact outT_snoc day K _ g
      have hAl : Hid (∀ k, (acc k).length ≤ G.length) := fun k => by rw [hacc]; exact Nat.le_trans (outT_len _ _ _) (by rw [List.length_take]; omega)
      have hAe : Hid (outT day K G = acc G.length) := by show _ = _; rw [hacc]; simp only [List.take_length]
      clear hacc
      go_wp2_with fail
      go_loopw [15, 67] (fun out i wr => ∃ k : Nat, k ≤ G.length ∧ i = .int .i64 k ∧ wr.ownsRow wo.heap.size 36 9 out (acc k).length (rowR (acc k)) ∧ Below wo.heap.size wo wr ∧ wo.heap.size ≤ wr.heap.size) (fun _ i _ => G.length - (intOf i).toNat)
      case atStart => exact ⟨0, Nat.zero_le _, rfl, by rw [hA0.out]; exact World.ownsRow_nil _ _ _ _, Below.refl _ _, Nat.le_refl _⟩
      case round =>
        obtain ⟨k, hk2, rfl, hown, hBo, hzo⟩ := hrel
        by_cases hlt2 : k < G.length
        · obtain ⟨g, hx⟩ : ∃ e, G[k]? = some e := ⟨_, List.getElem?_eq_getElem hlt2⟩
          obtain ⟨b, off, rfl, hb, c0, c1, c2, c3, c4, c5, c6, c7, c8⟩ := (RightsAt.below hD hBo).at_ hx
          have hbw : b < wr.heap.size := by omega
          have HA := Lib.hid (hAs.out k g hx)
          have hgI := HGI.out g (List.mem_of_getElem? hx)
          have hlen := hAl.out k
          clear hx
          have hBa : Below wo.heap.size wo (wr.alloc (.cells #[.int .i64 g.id, .int .i64 g.owner, .int .i64 g.date, .int .i64 g.place, .int .i64 g.rate, .int .i64 g.from1, .int .i64 g.until1, .int .i64 g.back, .int .i64 g.backTo] 36)) := hBo.alloc hzo _
          have hBw2 : Below w.heap.size w (wr.alloc (.cells #[.int .i64 g.id, .int .i64 g.owner, .int .i64 g.date, .int .i64 g.place, .int .i64 g.rate, .int .i64 g.from1, .int .i64 g.until1, .int .i64 g.back, .int .i64 g.backTo] 36)) := hBw.trans (hBa.mono (by omega))
          have KS : Hid (Calls Tryd.prog 18 #[.agg #[.int .i64 g.id, .int .i64 g.owner, .int .i64 g.date, .int .i64 g.place, .int .i64 g.rate, .int .i64 g.from1, .int .i64 g.until1, .int .i64 g.back, .int .i64 g.backTo], .int .i64 day] (wr.alloc (.cells #[.int .i64 g.id, .int .i64 g.owner, .int .i64 g.date, .int .i64 g.place, .int .i64 g.rate, .int .i64 g.from1, .int .i64 g.until1, .int .i64 g.back, .int .i64 g.backTo] 36)) (BoolIs (seasonB g day) (wr.alloc (.cells #[.int .i64 g.id, .int .i64 g.owner, .int .i64 g.date, .int .i64 g.place, .int .i64 g.rate, .int .i64 g.from1, .int .i64 g.until1, .int .i64 g.back, .int .i64 g.backTo] 36)))) := season_any g day _ (hM.below hm0 hBw2) hgI
          cases hse : seasonB g day with
          | false =>
            have HN : Hid (acc (k + 1) = acc k) := by show _ = _; rw [HA.out, if_neg (fun e => by rw [hse] at e; exact Bool.false_ne_true e.1)]
            rw [hse] at KS
            clear HA hse
            go_wp2_with (first | (go_at_call 18; (with_reducible refine KS.out.mono ?_); rintro e1 w1 ⟨rfl, hb1⟩) | fail)
            go_roundw
            case rel => exact ⟨k + 1, by omega, by go_num, by rw [HN.out]; exact row_below (hown.alloc _) hb1, hBa.trans (hb1.mono (by simp; omega)), by have := hb1.size; simp at this; omega⟩
            case measure => simp [intOf]; omega
          | true =>
            rw [hse] at KS
            go_wp2_with fail
            go_at_call 18
            (with_reducible refine KS.out.mono ?_)
            rintro e1 w1 ⟨rfl, hb1⟩
            have hB1 : Below wo.heap.size wo w1 := hBa.trans (hb1.mono (by simp; omega))
            have hq1 := hb1.size
            rw [World.size_alloc] at hq1
            have hzz : wr.heap.size < w1.heap.size := by omega
            have hown1 := row_below (hown.alloc (.cells #[.int .i64 g.id, .int .i64 g.owner, .int .i64 g.date, .int .i64 g.place, .int .i64 g.rate, .int .i64 g.from1, .int .i64 g.until1, .int .i64 g.back, .int .i64 g.backTo] 36)) hb1
            have f0 := (hb1.cell (p := ⟨wr.heap.size, 0, none⟩) (by rw [World.size_alloc]; exact Nat.lt_succ_self _)).trans (show _ = some (.int .i64 g.id) by rw [World.cell?_alloc_at _ _ _ _ rfl]; rfl)
            have f1 := (hb1.cell (p := ⟨wr.heap.size, 1, none⟩) (by rw [World.size_alloc]; exact Nat.lt_succ_self _)).trans (show _ = some (.int .i64 g.owner) by rw [World.cell?_alloc_at _ _ _ _ rfl]; rfl)
            have f2 := (hb1.cell (p := ⟨wr.heap.size, 2, none⟩) (by rw [World.size_alloc]; exact Nat.lt_succ_self _)).trans (show _ = some (.int .i64 g.date) by rw [World.cell?_alloc_at _ _ _ _ rfl]; rfl)
            have f3 := (hb1.cell (p := ⟨wr.heap.size, 3, none⟩) (by rw [World.size_alloc]; exact Nat.lt_succ_self _)).trans (show _ = some (.int .i64 g.place) by rw [World.cell?_alloc_at _ _ _ _ rfl]; rfl)
            have f4 := (hb1.cell (p := ⟨wr.heap.size, 4, none⟩) (by rw [World.size_alloc]; exact Nat.lt_succ_self _)).trans (show _ = some (.int .i64 g.rate) by rw [World.cell?_alloc_at _ _ _ _ rfl]; rfl)
            have f5 := (hb1.cell (p := ⟨wr.heap.size, 5, none⟩) (by rw [World.size_alloc]; exact Nat.lt_succ_self _)).trans (show _ = some (.int .i64 g.from1) by rw [World.cell?_alloc_at _ _ _ _ rfl]; rfl)
            have f6 := (hb1.cell (p := ⟨wr.heap.size, 6, none⟩) (by rw [World.size_alloc]; exact Nat.lt_succ_self _)).trans (show _ = some (.int .i64 g.until1) by rw [World.cell?_alloc_at _ _ _ _ rfl]; rfl)
            have f7 := (hb1.cell (p := ⟨wr.heap.size, 7, none⟩) (by rw [World.size_alloc]; exact Nat.lt_succ_self _)).trans (show _ = some (.int .i64 g.back) by rw [World.cell?_alloc_at _ _ _ _ rfl]; rfl)
            have f8 := (hb1.cell (p := ⟨wr.heap.size, 8, none⟩) (by rw [World.size_alloc]; exact Nat.lt_succ_self _)).trans (show _ = some (.int .i64 g.backTo) by rw [World.cell?_alloc_at _ _ _ _ rfl]; rfl)
            have HW1 := Lib.hid (hW.out.go hB1)
            have hlk := HW1.out.about.lookup Tryd.keyInt Tryd.underlying57 (Tryd.zeroDeals w1) g.id
            simp only [intV] at hlk
            obtain ⟨E, ce, hE, hEr, _⟩ := rowk_of_owns dl_len (HW1.out.about.row g.id)
            rw [hE] at hlk
            have hal : (aboutOf g.id K).length ≤ 100 := Nat.le_trans (aboutOf_len _ _) (by omega)
            have KC0 := change_any g (aboutOf g.id K) E ce w1 hEr (Nat.le_refl _) (by omega)
            rw [change_about] at KC0
            obtain ⟨n, hn⟩ : ∃ n : Nat, (aboutOf g.id K).length = n := ⟨_, rfl⟩
            rw [hn] at hlk KC0
            clear hb1 KS hE hEr hal hn hown
            cases hen : endedB K g.id with
            | true =>
              have HN : Hid (acc (k + 1) = acc k) := by show _ = _; rw [HA.out, if_neg (fun e => by rw [hen] at e; exact Bool.noConfusion e.2)]
              rw [hen, if_pos rfl] at KC0
              have KC : Hid (Calls Tryd.prog 19 #[.agg #[.int .i64 g.id, .int .i64 g.owner, .int .i64 g.date, .int .i64 g.place, .int .i64 g.rate, .int .i64 g.from1, .int .i64 g.until1, .int .i64 g.back, .int .i64 g.backTo], .slice E n ce] w1 (fun e w' => e = .returned (.tuple #[.agg #[.int .i64 0, .int .i64 0, .int .i64 0, .int .i64 0, .int .i64 0, .int .i64 0, .int .i64 0, .int .i64 0, .int .i64 0], .bool false]) ∧ Below w1.heap.size w1 w')) := KC0.mono fun e w' ⟨h1, h2⟩ => by
                rcases h2 with ⟨_, h2⟩ | ⟨q, h2, _⟩
                · exact ⟨h2, h1⟩
                · cases h2
              clear KC0 HA hen hse
              go_wp2_with (first | (go_at_call 19; (with_reducible refine KC.out.mono ?_); rintro e2 w2 ⟨rfl, hb2⟩) | fail)
              go_roundw
              case rel => exact ⟨k + 1, by omega, by go_num, by rw [HN.out]; exact (row_below hown1 hb2).alloc _, (hB1.trans (hb2.mono (by omega))).alloc (by have := hb2.size; omega) _, by have := hb2.size; simp; omega⟩
              case measure => simp [intOf]; omega
            | false =>
              have HN : Hid (acc (k + 1) = acc k ++ [changed K g]) := by show _ = _; rw [HA.out, if_pos ⟨hse, hen⟩]
              rw [hen, if_neg Bool.false_ne_true] at KC0
              obtain ⟨q, hq⟩ : ∃ q, changed K g = q := ⟨_, rfl⟩
              rw [hq] at KC0 HN
              have KC : Hid (Calls Tryd.prog 19 #[.agg #[.int .i64 g.id, .int .i64 g.owner, .int .i64 g.date, .int .i64 g.place, .int .i64 g.rate, .int .i64 g.from1, .int .i64 g.until1, .int .i64 g.back, .int .i64 g.backTo], .slice E n ce] w1 (fun e w' => e = .returned (.tuple #[.agg #[.int .i64 q.id, .int .i64 q.owner, .int .i64 q.date, .int .i64 q.place, .int .i64 q.rate, .int .i64 q.from1, .int .i64 q.until1, .int .i64 q.back, .int .i64 q.backTo], .bool true]) ∧ Below w1.heap.size w1 w')) := KC0.mono fun e w' ⟨h1, h2⟩ => by
                rcases h2 with ⟨h2, _⟩ | ⟨q2, h2, h3⟩
                · cases h2
                · cases h2; exact ⟨h3, h1⟩
              clear KC0 HA hen hse hq
              go_wp2_with (first | (go_at_call 19; (with_reducible refine KC.out.mono ?_); rintro e2 w2 ⟨rfl, hb2⟩; have hown2 := row_below hown1 hb2; have hq2 := hb2.size; have hB2 := hB1.trans (hb2.mono (by omega)); clear hb2) | (at_builtin; go_loud (refine wpList_append_any _ rfl _ _ 39 rfl wo.heap.size 36 i0 _ 9 72 Tryd.underlying39 hi hz0 hz1 hz2 rfl (by decide) _ (acc k).length _ rfl ((hown2.alloc _).alloc _) (w2.heap.size + 1 + 1) (some ⟨w2.heap.size + 1, 0, none⟩) 1 1 q.cells rfl ⟨rfl, fun _ => ⟨_, rfl, Nat.lt_succ_self _, cells_at (by simp) _ _⟩⟩ (rt_one _) (by unfold maxLen; omega) (by omega) (by simp; omega) ?_); intro v' w3 hown3 hgr3 _; have hB3 := (((hB2.alloc (by omega) _).alloc (by simp; omega) _).trans (below_own ((hown2.alloc _).alloc _) (by simp; omega) hgr3))) | fail)
              go_roundw
              case rel => exact ⟨k + 1, by omega, by go_num, by rw [HN.out, rowR_snoc, List.length_append]; exact hown3, hB3, hB3.size⟩
              case measure => simp [intOf]; omega
        · have hke2 : k = G.length := by omega
          subst hke2
          have hlen := hAl.out G.length
          obtain ⟨D2, cd2, hv2, hD2, _⟩ := rowk_of_owns rt_len hown
          have hD2 : RightsAt wr wr.heap.size D2 (acc G.length) := hD2
          subst hv2
          rw [hAe.out] at hKe
          obtain ⟨A, hA⟩ : ∃ A, A = acc G.length := ⟨_, rfl⟩
          rw [← hA] at hKe hD2 hlen ⊢
          have KO := Lib.hid (order_any A D2 cd2 wr hD2 (Nat.le_refl _) (by omega))
          have hol : (orderR A).length = A.length := order_len A
          have HOL := Lib.hid hol
          clear hA hol hown
          generalize orderR A = R at *
          have hRl : R.length ≤ 100 := by have := HOL.out; omega
          go_wp2_with fail
          go_at_call 20
          (with_reducible refine KO.out.mono ?_)
          rintro e1 w1 ⟨C1, c1, rfl, hc1, hC1, hb1⟩
          have KCl := Lib.hid (clone_any R C1 c1 w1 hC1 (Nat.le_refl _) (by omega))
          have hlt200 : ¬ (200 : Int) < (R.length : Int) := by omega
          have hlt201 : ¬ 200 < R.length := by omega
          have hlt202 : (R.length : Int) < 200 := by omega
          have hlt203 : R.length < 200 := by omega
          have hlt204 : min (R.length : Int) 200 = (R.length : Int) := by omega
          have hlt205 : (R.length : Int) ≤ (c1 : Int) := by omega
          go_wp2_with (first | (go_at_call 21; (with_reducible refine KCl.out.mono ?_); rintro e2 w2 ⟨v2, rfl, hv2, hb2⟩) | fail)
          go_ret
          obtain ⟨C2, c2, hE2, hR2, _⟩ := rowk_of_owns rt_len hv2
          have hcap2 := owns_cap hv2 hE2
          rw [hKe.out, hE2]
          exact ⟨C2, c2, rfl, hcap2, hR2, ((hBw.trans (hBo.mono (by omega))).trans (hb1.mono (by omega))).trans (hb2.mono (by have := hb1.size; omega))⟩
end Go.Proofs.YtkbceeobnbbfbaaDoor.RR

