/- Joined of: A8 A9. -/
import Derived.Test.YtminphldifncaaaDoorG10
/- The walk of posts. -/
set_option linter.unusedSimpArgs false
set_option linter.unusedVariables false
namespace Go.Proofs.YtminphldifncaaaDoor
open Go.RowKit LG
attribute [local go_sem] alloc_drewN setCell_drewN shape_drewN

def riverE (a : Et) : Et := ⟨a.day, a.known, -1, a.place, wrap64 (-a.litres), a.why, a.ref⟩
def pairP (a : Et) : List Et := [a, riverE a]
def psOf (l : List Et) : List (List Et) := (l.take 12).map pairP
/-- The ledger of the accepted ones. -/
def postsR (l : List Et) : List Et := bookedR (psOf l)
theorem psOf_8 (l : List Et) : ∀ p ∈ psOf l, p.length ≤ 8 := fun p hp => by
  obtain ⟨a, _, rfl⟩ := List.mem_map.1 hp
  simp [pairP]
theorem psOf_12 (l : List Et) : (psOf l).length ≤ 12 := by unfold psOf; rw [List.length_map, List.length_take]; omega
theorem psOf_in {l : List Et} (h : LitsIn l) : ∀ p ∈ psOf l, LitsIn p := fun p hp => by
  obtain ⟨a, ha, rfl⟩ := List.mem_map.1 hp
  intro e he
  simp only [pairP, List.mem_cons, List.not_mem_nil, or_false] at he
  rcases he with rfl | rfl
  · exact h _ (List.mem_of_mem_take ha)
  · unfold riverE wrap64 In64; dsimp only; omega
set_option maxRecDepth 100000 in
set_option maxHeartbeats 1000000 in
theorem posts_any (l : List Et) (C : Option Addr) (cc : Nat) (w : World) {B : Nat} (hC : EntsAt w B C l) (hB : B ≤ w.heap.size) (hl : l.length ≤ 9223372036854775807) (hI : LitsIn l) :
    Calls Tryd.prog 11 #[.slice C l.length cc] w (EntsRes (postsR l) w) := by
  obtain ⟨n, hn⟩ : ∃ n, l.length = n := ⟨_, rfl⟩
  have hnn := Lib.hid hn
  rw [hn] at hl ⊢
  clear hn
  obtain ⟨ps, hps⟩ : ∃ ps, psOf l = ps := ⟨_, rfl⟩
  have h8 := psOf_8 l
  have h12 := psOf_12 l
  have hPI := psOf_in hI
  rw [hps] at h8 h12 hPI
  have hpl : Hid (ps.length = min n 12) := by show _ = _; rw [← hps, ← hnn.out]; unfold psOf; rw [List.length_map, List.length_take]; omega
  have hpk : Hid (∀ k e, l[k]? = some e → k < 12 → ps[k]? = some (pairP e)) := fun k e h h2 => by
    rw [← hps]; unfold psOf; rw [List.getElem?_map, List.getElem?_take_of_lt h2, h]; rfl
  have hEnd : Hid (postsR l = bookT ps ps.length) := by show _ = _; unfold postsR bookT; rw [hps, List.take_length]
  have hps := Lib.hid hps
  obtain ⟨N, hN⟩ : ∃ N, min n 12 = N := ⟨_, rfl⟩
  rw [hN] at hpl
  have hN1 : N ≤ n ∧ N ≤ 12 := by omega
  have hN2 := Lib.hid hN
  clear hN
  go_enter Tryd.func11, Tryd.ntmps11
  go_wp2_with fail
  go_loopw [3, 4] (fun out i wr => ∃ (k : Nat) (D : Option Addr) (dc : Nat) (L : List Et), k ≤ N ∧ i = .int .i64 k ∧ out = .slice D L.length dc ∧ Hid (L = bookT ps k) ∧ L.length ≤ dc ∧ EntsAt wr wr.heap.size D L ∧ Below w.heap.size w wr ∧ w.heap.size ≤ wr.heap.size) (fun _ i _ => N - (intOf i).toNat)
  case atStart => exact ⟨0, none, 0, [], Nat.zero_le _, rfl, rfl, rfl, Nat.le_refl _, EntsAt.nil _ _ _, Below.refl _ _, Nat.le_refl _⟩
  case round =>
    obtain ⟨k, D, dc, L, hk, rfl, rfl, hL, hcap, hD, hBw, hz⟩ := hrel
    by_cases hlt : k < N
    · have hkn : k < n := by omega
      have hk12 : k < 12 := by omega
      obtain ⟨e, hx⟩ : ∃ e, l[k]? = some e := ⟨_, List.getElem?_eq_getElem (by have := hnn.out; omega)⟩
      obtain ⟨b, off, rfl, hb, r0, r1, r2, r3, r4, r5, r6⟩ := (hC.below (hBw.mono hB)).at_ hx
      have hbw : b < wr.heap.size := by omega
      have hp := Lib.hid (hpk.out k e hx hk12)
      have hbk := bookT_ok h8 k (by rw [hpl.out]; omega)
      rw [← hL.out] at hbk
      have hLI : LitsIn L := fun e he => by obtain ⟨q, h1, h2⟩ := hbk.2 e he; exact hPI q h1 e h2
      have hll : L.length ≤ 900000 := by omega
      have hS := Lib.hid (bookT_succ hp.out)
      have hneg : IntKind.i64.wrap (-e.litres) = wrap64 (-e.litres) := by rw [IntWalk.i64_left]
      have hpe := Lib.hid (hPI _ (List.mem_of_getElem? hp.out))
      clear hx hbk
      obtain ⟨W2, hW2⟩ : ∃ W, W = (wr.alloc (.cells #[.int .i64 e.day, .int .i64 e.known, .int .i64 e.owner, .int .i64 e.place, .int .i64 e.litres, .int .i64 e.why, .int .i64 e.ref] 34)).alloc (.cells #[.int .i64 e.day, .int .i64 e.known, .int .i64 (-1), .int .i64 e.place, .int .i64 (wrap64 (-e.litres)), .int .i64 e.why, .int .i64 e.ref] 34) := ⟨_, rfl⟩
      obtain ⟨Wp, hWp⟩ : ∃ W, W = W2.alloc (.cells #[.int .i64 e.day, .int .i64 e.known, .int .i64 e.owner, .int .i64 e.place, .int .i64 e.litres, .int .i64 e.why, .int .i64 e.ref, .int .i64 e.day, .int .i64 e.known, .int .i64 (-1), .int .i64 e.place, .int .i64 (wrap64 (-e.litres)), .int .i64 e.why, .int .i64 e.ref] 34) := ⟨_, rfl⟩
      have hb2 : Below wr.heap.size wr W2 := by rw [hW2]; exact ((Below.refl _ _).alloc (Nat.le_refl _) _).alloc (by simp) _
      have hz2 : W2.heap.size = wr.heap.size + 1 + 1 := by rw [hW2]; simp
      have hbp : Below wr.heap.size wr Wp := by rw [hWp]; exact hb2.alloc hb2.size _
      have hPE : EntsAt Wp Wp.heap.size (some ⟨wr.heap.size + 1 + 1, 0, none⟩) (pairP e) := fun _ => ⟨wr.heap.size + 1 + 1, 0, rfl, by rw [hWp]; simp; omega, fun k r hk j v hj => by
        have h1 := rowE_get (pairP e) k r hk j (by have := (List.getElem?_eq_some_iff.1 hj).1; simpa [Et.cells] using this)
        rw [hj] at h1
        have := cells_at (w := W2) hz2 34 (rowE (pairP e)) (k * 7 + j) v h1
        rw [Addr.add_lit] at this
        rw [hWp]; exact this⟩
      have K := Lib.hid (post_any L (pairP e) D (some ⟨wr.heap.size + 1 + 1, 0, none⟩) dc 2 Wp (B := Wp.heap.size) ((hD.below hbp).more hbp.size) hPE (Nat.le_refl _) hll (by simp [pairP]) hLI hpe.out)
      obtain ⟨rl, rn, hr⟩ : ∃ rl rn, postR L (pairP e) = (rl, rn) := ⟨_, _, rfl⟩
      have HR := Lib.hid hr
      rw [hr, show (pairP e).length = 2 from rfl] at K
      have hbpz := hbp.size
      rw [hWp, hW2] at K
      clear hr hz2 hPE hb2
      replace hWp := Lib.hid hWp
      replace hW2 := Lib.hid hW2
      by_cases h0 : rn = 0
      · subst h0
        have hS2 : Hid (rl = bookT ps (k + 1)) := by show _ = _; rw [hS.out, ← hL.out]; unfold bookStep; rw [HR.out, if_pos rfl]
        go_wp2_with (first | (go_at_call 12; refine K.out.mono ?_; rw [← hW2.out, ← hWp.out]; rintro x1 w1 ⟨F1, f1, rfl, hfc, hF1, hF2, hb1⟩) | fail)
        go_roundw
        case rel => exact ⟨k + 1, F1, f1, rl, by omega, by go_num, rfl, hS2, hfc, hF1, hBw.trans ((hbp.trans (hb1.mono hbpz)).mono hz), by have := hb1.size; omega⟩
        case measure => simp [intOf]; omega
      · have d0 : (rn == 0) = false := by simpa using h0
        have hS2 : Hid (L = bookT ps (k + 1)) := by show _ = _; rw [hS.out, ← hL.out]; unfold bookStep; rw [HR.out, if_neg h0]
        go_wp2_with (first | (go_at_call 12; refine K.out.mono ?_; rw [← hW2.out, ← hWp.out]; rintro x1 w1 ⟨F1, f1, rfl, hfc, hF1, hF2, hb1⟩) | fail)
        go_roundw
        case rel => exact ⟨k + 1, D, dc, L, by omega, by go_num, rfl, hS2, hcap, (hD.below (hbp.trans (hb1.mono hbpz))).more (Nat.le_trans hbpz hb1.size), hBw.trans ((hbp.trans (hb1.mono hbpz)).mono hz), by have := hb1.size; omega⟩
        case measure => simp [intOf]; omega
    · have hke : k = N := by omega
      have hR : Hid (postsR l = L) := by show _ = _; rw [hEnd.out, hL.out, hpl.out, hke]
      rcases Nat.lt_or_ge k n with q | q
      · have d1 : decide (k < 12) = false := decide_eq_false (by have := hN2.out; omega)
        have d2 : ¬ k < 12 := by have := hN2.out; omega
        go_wp2_with fail
        go_ret
        rw [hR.out]
        exact ⟨D, dc, rfl, hcap, hD, hBw⟩
      · have d1 : decide (k < n) = false := decide_eq_false (by omega)
        have d2 : ¬ k < n := by omega
        go_wp2_with fail
        go_ret
        rw [hR.out]
        exact ⟨D, dc, rfl, hcap, hD, hBw⟩
theorem booked_led (ps : List (List Et)) : Led (bookedR ps) := by
  have key : ∀ (ps : List (List Et)) (l : List Et), Led l → Led (ps.foldl bookStep l) := by
    intro ps
    induction ps with
    | nil => exact fun l h => h
    | cons p ps ih =>
      intro l h
      rw [List.foldl_cons]
      refine ih _ ?_
      unfold bookStep
      split
      · rename_i h0
        obtain ⟨h1, _, _, h2⟩ := postR_zero h0
        rw [h2]
        exact .step h h1
      · exact h
  exact key ps [] .nil
theorem posts_led (l : List Et) : Led (postsR l) := booked_led _
theorem posts_len (l : List Et) : (postsR l).length ≤ 24 := by
  have key : ∀ (ps : List (List Et)) (l : List Et), (∀ p ∈ ps, p.length ≤ 2) → (ps.foldl bookStep l).length ≤ l.length + 2 * ps.length := by
    intro ps
    induction ps with
    | nil => intro l _; simp
    | cons p ps ih =>
      intro l h
      rw [List.foldl_cons]
      have h1 := ih (bookStep l p) fun q hq => h q (List.mem_cons_of_mem _ hq)
      have h2 := h p (List.mem_cons_self ..)
      have h3 : (bookStep l p).length ≤ l.length + p.length := by
        unfold bookStep
        split
        · exact postR_len
        · omega
      rw [List.length_cons]; omega
  have h1 := key (psOf l) [] fun p hp => by obtain ⟨a, _, rfl⟩ := List.mem_map.1 hp; simp [pairP]
  have h2 := psOf_12 l
  unfold postsR bookedR
  simp at h1
  omega
theorem posts_in {l : List Et} (h : LitsIn l) : LitsIn (postsR l) := fun e he => by
  have := okE_all ((posts_led l).ok e he)
  exact ⟨by omega, by omega⟩
end Go.Proofs.YtminphldifncaaaDoor

/- The walk of few; what an entry that becomes known later does not turn. -/
namespace Go.Proofs.YtminphldifncaaaDoor
open Go.RowKit LG
attribute [local go_sem] alloc_drewN setCell_drewN shape_drewN

structure Few (ow pl : List Bts) (l : List Et) : Prop where
  pl80 : pl.length ≤ 80
  ow80 : ow.length ≤ 80
  l40 : l.length ≤ 40
  pn : ∀ x ∈ pl, x.length ≤ 100
  on : ∀ x ∈ ow, x.length ≤ 100
def FewIs (ow pl : List Bts) (l : List Et) (w : World) (e : Ending) (w' : World) : Prop := ∃ fb, e = .returned (.bool fb) ∧ (fb = true → Few ow pl l) ∧ Below w.heap.size w w'
set_option maxRecDepth 100000 in
set_option maxHeartbeats 2000000 in
theorem few_any (X : Bas) (pl ow : List Bts) (l : List Et) (C : Option Addr) (cc : Nat) (w : World) (hX : X.l1 = ow.length) (hO : StrsAt w w.heap.size X.a1 ow) (hN : NamesAt w w.heap.size X.P pl) (hl : l.length ≤ 9223372036854775807) (hpl : pl.length ≤ 9223372036854775807) (hol : ow.length ≤ 9223372036854775807)
    (hp1 : Hid (∀ x ∈ pl, x.length ≤ 9223372036854775807)) (ho1 : Hid (∀ x ∈ ow, x.length ≤ 9223372036854775807)) :
    Calls Tryd.prog 10 #[.agg #[.string X.nm, .slice X.a1 X.l1 X.c1, .int .i64 X.cl, .slice X.P pl.length X.cP, .slice X.a4 X.l4 X.c4, .slice X.a5 X.l5 X.c5, .slice X.a6 X.l6 X.c6, .slice X.a7 X.l7 X.c7, .slice X.a8 X.l8 X.c8, .slice X.a9 X.l9 X.c9, .int .i64 X.er], .slice C l.length cc] w (FewIs ow pl l w) := by
  obtain ⟨np, hnp⟩ : ∃ n, pl.length = n := ⟨_, rfl⟩
  obtain ⟨no, hno⟩ : ∃ n, ow.length = n := ⟨_, rfl⟩
  obtain ⟨nl, hnl⟩ : ∃ n, l.length = n := ⟨_, rfl⟩
  rw [hX, hno, hnp, hnl]
  have hX' : X.l1 = no := hX.trans hno
  clear hX hX'
  obtain ⟨nm, a1, l1, c1, cl, P, cP, a4, l4, c4, a5, l5, c5, a6, l6, c6, a7, l7, c7, a8, l8, c8, a9, l9, c9, er⟩ := X
  dsimp only at hO hN ⊢
  rw [hnp] at hpl
  rw [hno] at hol
  rw [hnl] at hl
  obtain ⟨N, hNN⟩ : ∃ N, w.heap.size = N := ⟨_, rfl⟩
  rw [hNN] at hO hN
  obtain ⟨W, hW⟩ : ∃ W, W = w.alloc (.cells #[.string nm, .slice a1 no c1, .int .i64 cl, .slice P np cP, .slice a4 l4 c4, .slice a5 l5 c5, .slice a6 l6 c6, .slice a7 l7 c7, .slice a8 l8 c8, .slice a9 l9 c9, .int .i64 er] 31) := ⟨_, rfl⟩
  have hbW : Below N w W := by rw [hW, ← hNN]; exact below_new _ _
  have d1 : W.cell? ⟨N, 1, none⟩ = some (.slice a1 no c1) := by rw [hW, World.cell?_alloc_at _ _ _ _ hNN.symm]; rfl
  have d3 : W.cell? ⟨N, 3, none⟩ = some (.slice P np cP) := by rw [hW, World.cell?_alloc_at _ _ _ _ hNN.symm]; rfl
  have hzW : N < W.heap.size := by rw [hW]; simp; omega
  have hO' := Lib.hid (hO.below hbW)
  have hN' := Lib.hid (hN.below hbW)
  have hret : ∀ wx, wx = W → Below w.heap.size w wx := fun wx q => by rw [q, hNN]; exact hbW
  have hnpx := Lib.hid hnp
  have hnox := Lib.hid hno
  have hnlx := Lib.hid hnl
  have hWx := Lib.hid hW
  clear hO hN hnp hno hnl hW
  by_cases g1 : 80 < np
  · have q1 : decide ((80 : Int) < (np : Int)) = true := decide_eq_true (by omega)
    go_enter Tryd.func10, Tryd.ntmps10
    go_wp2_with fail
    go_ret
    exact ⟨false, rfl, fun h => (by cases h), below_new _ _⟩
  have q1 : decide ((80 : Int) < (np : Int)) = false := decide_eq_false (by omega)
  have q1' : ¬ 80 < np := g1
  by_cases g2 : 80 < no
  · have q2 : decide ((80 : Int) < (no : Int)) = true := decide_eq_true (by omega)
    go_enter Tryd.func10, Tryd.ntmps10
    go_wp2_with fail
    go_ret
    exact ⟨false, rfl, fun h => (by cases h), below_new _ _⟩
  have q2 : decide ((80 : Int) < (no : Int)) = false := decide_eq_false (by omega)
  have q2' : ¬ 80 < no := g2
  by_cases g3 : 40 < nl
  · have q3 : decide ((40 : Int) < (nl : Int)) = true := decide_eq_true (by omega)
    go_enter Tryd.func10, Tryd.ntmps10
    go_wp2_with fail
    go_ret
    exact ⟨false, rfl, fun h => (by cases h), below_new _ _⟩
  have q3 : decide ((40 : Int) < (nl : Int)) = false := decide_eq_false (by omega)
  have q3' : ¬ 40 < nl := g3
  go_enter Tryd.func10, Tryd.ntmps10
  go_wp2_with fail
  rw [← hWx.out]
  go_loop [5] (fun u5 => ∃ k : Nat, k ≤ np ∧ u5 = .int .i64 k ∧ Hid (∀ x ∈ pl.take k, x.length ≤ 100)) (fun u5 => np - (intOf u5).toNat)
  case atStart => exact ⟨0, Nat.zero_le _, rfl, fun x hx => by simp at hx⟩
  case round =>
    obtain ⟨k, hk, rfl, hI⟩ := hrel
    by_cases hlt : k < np
    · obtain ⟨x, hx⟩ : ∃ x, pl[k]? = some x := ⟨_, List.getElem?_eq_getElem (by have := hnpx.out; omega)⟩
      obtain ⟨b, off, rfl, hb, hc⟩ := hN'.out.at_ hx
      have hbw : b < W.heap.size := by omega
      have hz := bs_size x
      have hxl := hp1.out x (List.mem_of_getElem? hx)
      have hX := Lib.hid hx
      clear hx
      by_cases g4 : 100 < x.length
      · have q4 : decide ((100 : Int) < (x.length : Int)) = true := decide_eq_true (by omega)
        go_wp2_with fail
        go_ret
        exact ⟨false, rfl, fun h => (by cases h), hret _ rfl⟩
      have q4 : decide ((100 : Int) < (x.length : Int)) = false := decide_eq_false (by omega)
      have q4' : ¬ 100 < x.length := g4
      go_wp2_with fail
      go_round
      case rel => exact ⟨k + 1, by omega, by go_num, fun y hy => by
        rw [List.take_add_one, hX.out] at hy
        rcases List.mem_append.1 hy with q | q
        · exact hI.out y q
        · simp at q; subst q; omega⟩
      case measure => simp [intOf]; omega
    · have hke : k = np := by omega
      have hI2 : Hid (∀ x ∈ pl, x.length ≤ 100) := fun x hx => hI.out x (by rw [List.take_of_length_le (by have := hnpx.out; omega)]; exact hx)
      clear hI
      go_wp2_with fail
      go_loop [6] (fun u6 => ∃ j : Nat, j ≤ no ∧ u6 = .int .i64 j ∧ Hid (∀ x ∈ ow.take j, x.length ≤ 100)) (fun u6 => no - (intOf u6).toNat)
      case atStart => exact ⟨0, Nat.zero_le _, rfl, fun x hx => by simp at hx⟩
      case round =>
        obtain ⟨j, hj, rfl, hJ⟩ := hrel
        by_cases hlt2 : j < no
        · obtain ⟨x, hx⟩ : ∃ x, ow[j]? = some x := ⟨_, List.getElem?_eq_getElem (by have := hnox.out; omega)⟩
          obtain ⟨b, off, rfl, hb, hc⟩ := hO'.out.at_ hx
          have hbw : b < W.heap.size := by omega
          have hz := bs_size x
          have hxl := ho1.out x (List.mem_of_getElem? hx)
          have hX := Lib.hid hx
          clear hx
          by_cases g4 : 100 < x.length
          · have q4 : decide ((100 : Int) < (x.length : Int)) = true := decide_eq_true (by omega)
            go_wp2_with fail
            go_ret
            exact ⟨false, rfl, fun h => (by cases h), hret _ rfl⟩
          have q4 : decide ((100 : Int) < (x.length : Int)) = false := decide_eq_false (by omega)
          have q4' : ¬ 100 < x.length := g4
          go_wp2_with fail
          go_round
          case rel => exact ⟨j + 1, by omega, by go_num, fun y hy => by
            rw [List.take_add_one, hX.out] at hy
            rcases List.mem_append.1 hy with q | q
            · exact hJ.out y q
            · simp at q; subst q; omega⟩
          case measure => simp [intOf]; omega
        · have hje : j = no := by omega
          have hJ2 : Hid (∀ x ∈ ow, x.length ≤ 100) := fun x hx => hJ.out x (by rw [List.take_of_length_le (by have := hnox.out; omega)]; exact hx)
          have hfin : Few ow pl l := ⟨by have := hnpx.out; omega, by have := hnox.out; omega, by have := hnlx.out; omega, hI2.out, hJ2.out⟩
          go_wp2_with fail
          go_ret
          exact ⟨true, rfl, fun _ => hfin, hret _ rfl⟩
/-- Entries that become known later turn nothing. -/
theorem later_filter {l p : List Et} {f : Et → Bool} (h : ∀ e ∈ p, f e = false) : (l ++ p).filter f = l.filter f := by
  have hn : p.filter f = [] := by
    rw [List.filter_eq_nil_iff]
    intro e he hf
    rw [h e he] at hf; cases hf
  rw [List.filter_append, hn, List.append_nil]
theorem later_change {l p : List Et} {known : Int} (h : ∀ e ∈ p, known < e.known) (owner day k1 : Int) : changeR (l ++ p) owner day k1 known = changeR l owner day k1 known := by
  unfold changeR
  rw [later_filter fun e he => by unfold chgB; rw [decide_eq_false (p := e.known ≤ known) (by have := h e he; omega)]; simp]
theorem later_account {l p : List Et} {known : Int} (h : ∀ e ∈ p, known < e.known) (owner place day : Int) : account (l ++ p) owner place day known = account l owner place day known := by
  unfold account
  rw [later_filter fun e he => by unfold accB; rw [decide_eq_false (p := e.known ≤ known) (by have := h e he; omega)]; simp]
theorem later_lines {l p : List Et} {known : Int} (h : ∀ e ∈ p, known < e.known) (owner fr un : Int) : linesR (l ++ p) owner fr un known = linesR l owner fr un known := by
  unfold linesR
  rw [later_filter fun e he => by unfold lineB; rw [decide_eq_false (p := e.known ≤ known) (by have := h e he; omega)]; simp]
theorem later_stmt {l p : List Et} {known : Int} (h : ∀ e ∈ p, known < e.known) (ow pl : List Bts) (owner fr un : Int) : stmtL ow pl (l ++ p) owner fr un known = stmtL ow pl l owner fr un known := by
  unfold stmtL
  rw [later_account h, later_account h, later_lines h]
end Go.Proofs.YtminphldifncaaaDoor

