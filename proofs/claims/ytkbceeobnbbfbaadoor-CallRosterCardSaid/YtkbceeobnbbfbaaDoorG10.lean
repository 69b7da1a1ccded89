/- Joined of: V7 SM0 BK V16. -/
import Derived.Test.YtkbceeobnbbfbaaDoorG09
/- Walks of both Short. -/
set_option linter.unusedSimpArgs false
set_option linter.unusedVariables false
namespace Go.Proofs.YtkbceeobnbbfbaaDoor
open Go.RowKit CM
attribute [local go_sem] alloc_drewN setCell_drewN shape_drewN

/-- The Ids of the short ones below k. -/
def shortT (pl : Pl) (R : List Rt) (G : List (Int × Int)) (k : Nat) : List Int := ((List.range k).filter (shortF pl R G)).map fun i => (rtN R i).id
theorem shortT_end (pl : Pl) (R : List Rt) (G : List (Int × Int)) : shortT pl R G R.length = shortL pl R G := rfl
theorem shortT_succ (pl : Pl) (R : List Rt) (G : List (Int × Int)) (k : Nat) : shortT pl R G (k + 1) = if shortF pl R G k = true then shortT pl R G k ++ [(rtN R k).id] else shortT pl R G k := by
  unfold shortT
  rw [List.range_succ, List.filter_append, List.map_append]
  cases h : shortF pl R G k <;> simp [h]
theorem shortT_len (pl : Pl) (R : List Rt) (G : List (Int × Int)) (k : Nat) : (shortT pl R G k).length ≤ k := by
  unfold shortT
  rw [List.length_map]
  exact Nat.le_trans (List.length_filter_le _ _) (by simp)
theorem map_snoc (l : List Int) (n : Int) : (l ++ [n]).map (Value.int .i64) = l.map (Value.int .i64) ++ [.int .i64 n] := by simp
/-- A list of integers that the call has made. -/
def IntsRes (l : List Int) (w : World) (e : Ending) (w' : World) : Prop := ∃ C cc, e = .returned (.slice C l.length cc) ∧ IntsAt w' w'.heap.size C l ∧ Below w.heap.size w w'
set_option maxHeartbeats 4000000 in
theorem shorts_any (X : Bas) (pl : Pl) (R : List Rt) (G : List (Int × Int)) (C : Option Addr) (cr : Nat) (D : Option Addr) (cg : Nat) (w : World) {B : Nat} (hR : RightsAt w B C R) (hG : PairsAt w B D G) (hB : B ≤ w.heap.size)
    (hl : pl.length ≤ 1000000) (hr : R.length ≤ 1000000) (hg : G.length ≤ 1000000) :
    Calls Tryd.prog 13 #[.agg #[.string X.nm, .slice X.a1 X.l1 X.c1, .int .i64 X.cl, .slice X.P pl.length X.cP, .slice X.a4 X.l4 X.c4, .slice X.a5 X.l5 X.c5, .slice X.a6 X.l6 X.c6, .slice X.a7 X.l7 X.c7, .slice X.a8 X.l8 X.c8, .slice X.a9 X.l9 X.c9, .int .i64 X.er], .slice C R.length cr, .slice D G.length cg] w (IntsRes (shortL pl R G) w) := by
  obtain ⟨i0, hi, hz0, hz1, hz2⟩ := info_parts Tryd.infoInt
  have K1 := Lib.hid (fun (k : Nat) (wx : World) (hk : k < R.length) (h : Below w.heap.size w wx) => short_any X pl R G C cr D cg k wx (B := B) (hR.below (h.mono hB)) (hG.below (h.mono hB)) (by have := h.size; omega) hl hr hg hk)
  go_enter Tryd.func13, Tryd.ntmps13
  go_wp2_with fail
  go_loopw [7, 12] (fun out c wr => ∃ k : Nat, k ≤ R.length ∧ c = .int .i64 k ∧ wr.ownsRow (w.heap.size + 1) 3 1 out (shortT pl R G k).length ((shortT pl R G k).map (Value.int .i64)) ∧ BoxB wr w.heap.size X pl ∧ Below w.heap.size w wr ∧ w.heap.size + 1 ≤ wr.heap.size) (fun _ c _ => R.length - (intOf c).toNat)
  case atStart => exact ⟨0, Nat.zero_le _, rfl, World.ownsRow_nil _ _ _ _, BoxB.new w X pl, (Below.refl _ _).alloc (Nat.le_refl _) _, by simp⟩
  case round =>
    obtain ⟨k, hk, rfl, hrow, hX, hBw, hz⟩ := hrel
    obtain ⟨x0, x1, x2, x3, x4, x5, x6, x7, x8, x9, x10⟩ := hX.cells
    by_cases hlt : k < R.length
    case neg =>
      have hke : k = R.length := by omega
      subst hke
      rw [shortT_end] at hrow
      obtain ⟨E, cc, rfl, hI⟩ := ints_of_owns hrow
      clear hrow K1
      go_wp2_with fail
      go_ret
      exact ⟨E, cc, rfl, hI, hBw⟩
    have hwl := shortT_len pl R G k
    obtain ⟨r, hx⟩ : ∃ r, R[k]? = some r := ⟨_, List.getElem?_eq_getElem hlt⟩
    have K2 := Lib.hid (fun wx h => K1.out k wx hlt h)
    clear K1
    obtain ⟨b, off, rfl, hb, r0, r1, r2, r3, r4, r5, r6, r7, r8⟩ := (RightsAt.below hR (hBw.mono hB)).at_ hx
    have hrt := Lib.hid (rtN_of hx)
    have hbw : b < wr.heap.size := by omega
    have hzw : w.heap.size < wr.heap.size := by omega
    clear hx
    cases hF : shortF pl R G k
    · have hs : Hid (shortT pl R G (k + 1) = shortT pl R G k) := by show _ = _; rw [shortT_succ, hF]; rfl
      have K2 := fun wx h => (K2.out wx h)
      unfold BoolIs at K2
      rw [hF] at K2
      have K2 := Lib.hid K2
      clear hF
      go_wp2_with (first | (go_at_call 27; ((with_reducible refine (K2.out _ (hBw.alloc (by omega) _)).mono ?_); rintro e1 w1 ⟨rfl, hb1⟩)) | fail)
      have hb9 : Below wr.heap.size wr w1 := ((Below.refl _ _).alloc (Nat.le_refl _) _).trans (hb1.mono (by simp))
      have hrow1 := row_below hrow hb9
      have hX1 := hX.below hb9 hzw
      have hB1 := hBw.trans (hb9.mono (by omega))
      have hz1' : w.heap.size + 1 ≤ w1.heap.size := by have := hb9.size; omega
      clear hrow hX hBw hb9 hb1
      go_roundw
      case rel => exact ⟨k + 1, by omega, by go_num, by rw [hs.out]; exact hrow1, hX1, hB1, hz1'⟩
      case measure => simp [intOf]; omega
    · have hs : Hid (shortT pl R G (k + 1) = shortT pl R G k ++ [r.id]) := by show _ = _; rw [shortT_succ, hF, hrt.out]; rfl
      have K2 := fun wx h => (K2.out wx h)
      unfold BoolIs at K2
      rw [hF] at K2
      have K2 := Lib.hid K2
      clear hF
      go_wp2_with (first | (go_at_call 27; ((with_reducible refine (K2.out _ (hBw.alloc (by omega) _)).mono ?_); rintro e1 w1 ⟨rfl, hb1⟩; have kc := (bcell hb1).1; have hb9 : Below wr.heap.size wr w1 := ((Below.refl _ _).alloc (Nat.le_refl _) _).trans (hb1.mono (by simp)); have hrow1 := row_below hrow hb9; have hz9 := hb9.size)) | (at_builtin; refine wpList_append_own _ rfl _ _ 29 rfl (w.heap.size + 1) 3 i0 (.int .i64 0) 1 8 Tryd.underlying29 hi hz0 hz1 hz2 rfl (by decide) _ (shortT pl R G k).length _ rfl (hrow1.alloc _) ⟨w1.heap.size, 0, none⟩ 1 1 [.int .i64 r.id] rfl rfl (cell_one_at (by simp) _ _) (by simp [Value.oneCell']) (by unfold maxLen; omega) (by omega) (by simp; omega) ?_; intro v' w2 hown' hgrow _) | fail)
      obtain ⟨g', cap', rfl, hg1, hg2⟩ := hown'.form (by omega)
      have hb2 := below_app hrow1 (by omega) hgrow
      have hrow2 : w2.ownsRow (w.heap.size + 1) 3 1 (.slice (some ⟨g', 0, none⟩) ((shortT pl R G k).length + 1) cap') (shortT pl R G (k + 1)).length ((shortT pl R G (k + 1)).map (Value.int .i64)) := by rw [hs.out, map_snoc, List.length_append]; exact hown'
      have hX2 := (hX.below hb9 hzw).below hb2 (by omega)
      have hB2 := (hBw.trans (hb9.mono (by omega))).trans (hb2.mono (by omega))
      have hz2 : w.heap.size + 1 ≤ w2.heap.size := by have := hb2.size; omega
      clear hown' hgrow hb2 hrow1 hrow hX hBw hb9 hb1 kc
      go_roundw
      case rel => exact ⟨k + 1, by omega, by go_num, hrow2, hX2, hB2, hz2⟩
      case measure => simp [intOf]; omega
end Go.Proofs.YtkbceeobnbbfbaaDoor

/- The fixed example: its numbers; the walk of fork. -/
namespace Go.Proofs.YtkbceeobnbbfbaaDoor
open Go.RowKit CM
attribute [local go_sem] alloc_drewN setCell_drewN shape_drewN

def pl0 : Pl := [(2, 0), (2, 0), (-1, 0), (-1, 0)]
def R0 : List Rt := [⟨1, 0, 0, 2, 30, 0, 0, 0, 0⟩, ⟨2, 0, 0, 0, 8, 0, 0, 0, 0⟩, ⟨3, 0, 0, 1, 8, 0, 0, 0, 0⟩, ⟨4, 0, 0, 3, 3, 0, 0, 0, 0⟩]
def S0 : List Int := [10, 20, 5, 9]
def G0 : List (Int × Int) := [(1, 30), (2, 5), (3, 0), (4, 3)]
def x0L : List (Int × Int) := [(2, 4), (3, 4)]
def X0 (P : Option Addr) : Bas := ⟨⟨#[]⟩, none, 0, 0, 0, P, 4, none, 0, 0, none, 0, 0, none, 0, 0, none, 0, 0, none, 0, 0, none, 0, 0, 0⟩
theorem day0 : dayLs pl0 R0 S0 = G0 := by decide +kernel
theorem exc0 : excN pl0 R0 S0 G0 = x0L := by decide +kernel
theorem short0 : shortL pl0 R0 G0 = [2, 3] := by decide +kernel
theorem stop01 : stopI pl0 R0 S0 G0 1 = 2 := by decide +kernel
theorem stop03 : stopI pl0 R0 S0 G0 3 = -1 := by decide +kernel
theorem chk0 : chkN pl0 R0 S0 G0 x0L = true := by decide +kernel
theorem chk1 : chkN pl0 R0 S0 G0 [(2, 4)] = false := by decide +kernel
theorem fut3 : futF pl0 2 3 = true := by decide +kernel
theorem fut2 : futF pl0 2 1 = false := by decide +kernel
theorem S0_in : ∀ x ∈ S0, In64 x := by unfold In64; decide +kernel
def ForkIs (w : World) (e : Ending) (w' : World) : Prop := ∃ b, e = .returned (.agg #[.string ⟨#[]⟩, .slice none 0 0, .int .i64 0, .slice (some ⟨b, 0, none⟩) 4 4, .slice none 0 0, .slice none 0 0, .slice none 0 0, .slice none 0 0, .slice none 0 0, .slice none 0 0, .int .i64 0]) ∧
  PlacesAt w' w'.heap.size (some ⟨b, 0, none⟩) pl0 ∧ Below w.heap.size w w'
set_option maxRecDepth 100000 in
set_option maxHeartbeats 4000000 in
theorem fork_any (w : World) : Calls Tryd.prog 11 #[] w (ForkIs w) := by
  go_enter Tryd.func11, Tryd.ntmps11
  go_wp2_with fail
  refine bodyPost_ret (v := .agg #[.string ⟨#[]⟩, .slice none 0 0, .int .i64 0, .slice (some ⟨w.heap.size + 1, 0, none⟩) 4 4, .slice none 0 0, .slice none 0 0, .slice none 0 0, .slice none 0 0, .slice none 0 0, .slice none 0 0, .int .i64 0]) (by simp [results, Tryd.results11, go_sem]) rfl ?_
  refine ⟨w.heap.size + 1, rfl, fun _ => ⟨w.heap.size + 1, 0, rfl, by simp, fun k hk => ?_⟩, ((Below.refl _ _).alloc (Nat.le_refl _) _).alloc (by simp) _⟩
  have hk : k < 4 := hk
  match k, hk with
  | 0, _ => constructor <;> go_simp <;> rfl
  | 1, _ => constructor <;> go_simp <;> rfl
  | 2, _ => constructor <;> go_simp <;> rfl
  | 3, _ => constructor <;> go_simp <;> rfl
end Go.Proofs.YtkbceeobnbbfbaaDoor

/- Blocks that are known whole, read as lists. -/
namespace Go.Proofs.YtkbceeobnbbfbaaDoor
open Go.RowKit CM
theorem cell_whole {w : World} {b : Nat} {cs : Array Value} {t : TypeId} (h : w.heap[b]? = some (.cells cs t (0, 0))) (i : Nat) : w.cell? ⟨b, i, none⟩ = cs[i]? := cell_of_row w b i cs t (0, 0) h
theorem rights_get : ∀ (R : List Rt) (k : Nat) (r : Rt) (j : Nat) (v : Value), R[k]? = some r → r.cells[j]? = some v → (R.flatMap Rt.cells)[k * 9 + j]? = some v
  | [], k, r, j, v, h, _ => by simp at h
  | s :: R, 0, r, j, v, h, hv => by
    obtain rfl : s = r := by simpa using h
    have hj : j < s.cells.length := (List.getElem?_eq_some_iff.1 hv).1
    rw [List.flatMap_cons, Nat.zero_mul, Nat.zero_add, List.getElem?_append_left hj, hv]
  | s :: R, k + 1, r, j, v, h, hv => by
    have ih := rights_get R k r j v (by simpa using h) hv
    have hl : s.cells.length = 9 := rfl
    rw [List.flatMap_cons, List.getElem?_append_right (by rw [hl]; omega), hl, show (k + 1) * 9 + j - 9 = k * 9 + j by omega, ih]
theorem rights_of_block {w : World} {b B : Nat} {R : List Rt} {t : TypeId} (h : w.heap[b]? = some (.cells (R.flatMap Rt.cells).toArray t (0, 0))) (hb : b < B) : RightsAt w B (some ⟨b, 0, none⟩) R := fun _ =>
  ⟨b, 0, rfl, hb, fun k r hk j v hj => by rw [Nat.zero_add, cell_whole h]; simpa using rights_get R k r j v hk hj⟩
theorem pairs_of_block {w : World} {b B : Nat} {A : List (Int × Int)} {t : TypeId} (h : w.heap[b]? = some (.cells (rowP A).toArray t (0, 0))) (hb : b < B) : PairsAt w B (some ⟨b, 0, none⟩) A := fun _ =>
  ⟨b, 0, rfl, hb, fun j hj => by rw [Nat.zero_add, cell_whole h]; simpa using rowP_get A j (by omega)⟩
theorem ints_of_block {w : World} {b B : Nat} {A : List Int} {t : TypeId} (h : w.heap[b]? = some (.cells (A.map (Value.int .i64)).toArray t (0, 0))) (hb : b < B) : IntsAt w B (some ⟨b, 0, none⟩) A := fun _ =>
  ⟨b, 0, rfl, hb, fun j hj => by rw [Nat.zero_add, cell_whole h]; simp [intF, List.getD_eq_getElem?_getD, hj]⟩
/-- The first ones of a list. -/
theorem PairsAt.take {w : World} {B : Nat} {C : Option Addr} {A : List (Int × Int)} (h : PairsAt w B C A) (n : Nat) : PairsAt w B C (A.take n) := fun hm => by
  have hl : (A.take n).length ≤ A.length := by simp; omega
  obtain ⟨b, off, e, hb, hc⟩ := h (by omega)
  refine ⟨b, off, e, hb, fun j hj => ?_⟩
  rw [hc j (by omega)]
  have hjn : j / 2 < n := by simp at hj; omega
  have key : A.getD (j / 2) (0, 0) = (A.take n).getD (j / 2) (0, 0) := by simp [List.getD_eq_getElem?_getD, List.getElem?_take_of_lt hjn]
  unfold pairF
  rw [key]
end Go.Proofs.YtkbceeobnbbfbaaDoor

/- The walk of Check. -/
namespace Go.Proofs.YtkbceeobnbbfbaaDoor
open Go.RowKit CM
attribute [local go_sem] alloc_drewN setCell_drewN shape_drewN

theorem lt_succ_all' {P : Nat → Prop} {k : Nat} (h : ∀ i, i < k → P i) (hk : P k) : ∀ i, i < k + 1 → P i := fun i hi => by
  by_cases g : i < k
  · exact h i g
  · rw [show i = k by omega]; exact hk
def excV (x : Int × Int) : Value := .agg #[.int .i64 x.1, .int .i64 x.2]
theorem Tryd.eqExc (x y : Int × Int) (w : World) : (Op.equal 51 (excV x) (excV y)).run Tryd.prog w = .ok (decide (x = y)) w := by
  have h : (Op.equalIn 10000 51 (excV x) (excV y)).run Tryd.prog w = .ok (decide (x = y)) w := by
    unfold excV
    by_cases h1 : x.1 = y.1
    · by_cases h2 : x.2 = y.2
      · rw [decide_eq_true (Prod.ext h1 h2)]
        have g1 : (x.1 == y.1) = true := by simpa using h1
        have g2 : (x.2 == y.2) = true := by simpa using h2
        go_simp
      · rw [decide_eq_false (fun e => h2 (by rw [e]))]
        have g1 : (x.1 == y.1) = true := by simpa using h1
        have g2 : (x.2 == y.2) = false := by simpa using h2
        go_simp
    · rw [decide_eq_false (fun e => h1 (by rw [e]))]
      have g1 : (x.1 == y.1) = false := by simpa using h1
      go_simp
  exact h
theorem Tryd.keyExc : KeyX Tryd.prog 51 excV := by
  refine struct_keyX Tryd.underlying51 (fun em x w => ?_) Tryd.eqExc (fun x => ?_)
  · have h : ∀ n, (Instr.checkKey em (n + 2) 51 (excV x)).run Tryd.prog w = .ok () w := fun n => by
      unfold excV
      rw [Instr.checkKey]
      simp [go_sem, run_underlying Tryd.underlying51, Instr.checkKey, Result.andThen]
    exact h 9998
  · simp [excV, Instr.sameBits]
theorem Tryd.zeroB (w : World) : (zeroValue 4).run Tryd.prog w = .ok (.bool false) w := by kernel_rfl
set_option maxRecDepth 100000 in
set_option maxHeartbeats 8000000 in
theorem check_any (X : Bas) (pl : Pl) (R : List Rt) (S : List Int) (G x : List (Int × Int)) (C : Option Addr) (cr : Nat) (E : Option Addr) (cs : Nat) (D : Option Addr) (cg : Nat) (Z : Option Addr) (cz : Nat) (w : World) {B : Nat} (hP : PlacesAt w B X.P pl) (hR : RightsAt w B C R) (hE : IntsAt w B E S) (hG : PairsAt w B D G) (hZ : PairsAt w B Z x) (hB : B ≤ w.heap.size)
    (hl : pl.length ≤ 1000000) (hr : R.length ≤ 1000) (hg : G.length ≤ 1000000) (hs : S.length ≤ 9223372036854775807) (hx : x.length ≤ 9223372036854775807) (hS : ∀ x ∈ S, In64 x) :
    Calls Tryd.prog 9 #[.agg #[.string X.nm, .slice X.a1 X.l1 X.c1, .int .i64 X.cl, .slice X.P pl.length X.cP, .slice X.a4 X.l4 X.c4, .slice X.a5 X.l5 X.c5, .slice X.a6 X.l6 X.c6, .slice X.a7 X.l7 X.c7, .slice X.a8 X.l8 X.c8, .slice X.a9 X.l9 X.c9, .int .i64 X.er], .slice C R.length cr, .slice E S.length cs, .slice D G.length cg, .slice Z x.length cz] w (BoolIs (chkN pl R S G x) w) := by
  by_cases hle : G.length = R.length
  case neg =>
    have hF : Hid (chkN pl R S G x = false) := chk_len hle
    have hl1 : (G.length != R.length) = true := by simp; exact hle
    have hl2 : ((G.length : Int) != (R.length : Int)) = true := by simp; omega
    go_enter Tryd.func9, Tryd.ntmps9
    go_wp2_with fail
    go_ret
    exact ⟨ret_bool hF.out.symm, (Below.refl _ _).alloc (Nat.le_refl _) _⟩
  have Hle := Lib.hid hle
  have hl1 : (G.length != R.length) = false := by simp; exact hle
  have hl2 : ((G.length : Int) != (R.length : Int)) = false := by simp; omega
  have K0 := Lib.hid (fun (wx : World) (h : Below w.heap.size w wx) => look_any X pl R S G C cr E cs D cg wx (B := B) (hP.below (h.mono hB)) (hR.below (h.mono hB)) (hE.below (h.mono hB)) (hG.below (h.mono hB)) (by have := h.size; omega) hl (by omega) hg hs hS)
  have K1 := Lib.hid (fun (k br bl bt M : Nat) (wx : World) (h : LookAt pl R S G br bl bt M wx) (hk : k < R.length) (hM : M ≤ wx.heap.size) => stop_any pl R S G br bl bt M k wx h hk hM hl (by omega))
  have K2 := Lib.hid (fun (k : Nat) (wx : World) (hk : k < R.length) (h : Below w.heap.size w wx) => short_any X pl R G C cr D cg k wx (B := B) (hR.below (h.mono hB)) (hG.below (h.mono hB)) (by have := h.size; omega) hl (by omega) hg hk)
  have K3 := Lib.hid (fun (r : Rt) (a b : Int) (wx : World) => lawful_any X pl r (a, b) wx hl)
  have K4 : Hid (∀ (k : Nat) (wx : World), k < R.length → Below w.heap.size w wx → Calls Tryd.prog 29 #[.slice C R.length cr, .slice D G.length cg, .int .i64 ((k : Int) + 1)] wx (ReachIs (wetF G R.length (k + 1)) wx)) := fun k wx hk h => by
    have q := wet_any R G C cr D cg (k + 1) wx (B := B) (hG.below (h.mono hB)) (by have := h.size; omega) (by omega) hg (by omega)
    rwa [Int.natCast_succ] at q
  have HRs := Lib.hid (fun (j : Nat) (r : Rt) (h : R[j]? = some r) => hR.at_ h)
  have HGs := Lib.hid (fun (j : Nat) (r : Int × Int) (h : G[j]? = some r) => hG.at_ h)
  have HZs := Lib.hid (fun (j : Nat) (r : Int × Int) (h : x[j]? = some r) => hZ.at_ h)
  have hmm := @run_makeMap Tryd.prog
  clear hle
  go_enter Tryd.func9, Tryd.ntmps9
  go_wp2_with fail
  clear hl1 hl2
  go_loopw [30] (fun i wr => ∃ k : Nat, k ≤ R.length ∧ i = .int .i64 k ∧ Hid (∀ i, i < k → lawfulF pl R G i = true) ∧ BoxB wr w.heap.size X pl ∧ Below w.heap.size w wr ∧ w.heap.size + 1 ≤ wr.heap.size) (fun i _ => R.length - (intOf i).toNat)
  case atStart => exact ⟨0, Nat.zero_le _, rfl, fun q hq => absurd hq (Nat.not_lt_zero _), BoxB.new w X pl, (Below.refl _ _).alloc (Nat.le_refl _) _, by simp⟩
  case round =>
    obtain ⟨k, hk, rfl, hlaws, hX, hBw, hz⟩ := hrel
    obtain ⟨x0, x1, x2, x3, x4, x5, x6, x7, x8, x9, x10⟩ := hX.cells
    by_cases hlt : k < R.length
    · obtain ⟨r, hxr⟩ : ∃ r, R[k]? = some r := ⟨_, List.getElem?_eq_getElem hlt⟩
      obtain ⟨g, hxg⟩ : ∃ g, G[k]? = some g := ⟨_, List.getElem?_eq_getElem (by have := Hle.out; omega)⟩
      have hkG : k < G.length := by have := Hle.out; omega
      obtain ⟨b, off, rfl, hb, r0, r1, r2, r3, r4, r5, r6, r7, r8⟩ := HRs.out k r hxr
      obtain ⟨b2, off2, rfl, hb2, g0, g1⟩ := HGs.out k g hxg
      have hlaw : Hid (lawfulF pl R G k = lawB pl r g) := by show _ = _; rw [lawB_eq, rtN_of hxr, List.getD_eq_getElem?_getD, hxg]; rfl
      clear hxr hxg
      obtain ⟨q0, q1, q2, q3, q4, q5, q6, q7, q8⟩ : wr.cell? ⟨b, off + k * 9, none⟩ = some (.int .i64 r.id) ∧ wr.cell? ⟨b, off + k * 9 + 1, none⟩ = some (.int .i64 r.owner) ∧ wr.cell? ⟨b, off + k * 9 + 2, none⟩ = some (.int .i64 r.date) ∧
        wr.cell? ⟨b, off + k * 9 + 3, none⟩ = some (.int .i64 r.place) ∧ wr.cell? ⟨b, off + k * 9 + 4, none⟩ = some (.int .i64 r.rate) ∧ wr.cell? ⟨b, off + k * 9 + 5, none⟩ = some (.int .i64 r.from1) ∧
        wr.cell? ⟨b, off + k * 9 + 6, none⟩ = some (.int .i64 r.until1) ∧ wr.cell? ⟨b, off + k * 9 + 7, none⟩ = some (.int .i64 r.back) ∧ wr.cell? ⟨b, off + k * 9 + 8, none⟩ = some (.int .i64 r.backTo) := by
        have q := fun o => hBw.cell (p := ⟨b, o, none⟩) (by show b < _; omega)
        exact ⟨(q _).trans r0, (q _).trans r1, (q _).trans r2, (q _).trans r3, (q _).trans r4, (q _).trans r5, (q _).trans r6, (q _).trans r7, (q _).trans r8⟩
      have p0 := (hBw.cell (p := ⟨b2, off2 + k * 2, none⟩) (by show b2 < _; omega)).trans g0
      have p1 := (hBw.cell (p := ⟨b2, off2 + k * 2 + 1, none⟩) (by show b2 < _; omega)).trans g1
      clear r0 r1 r2 r3 r4 r5 r6 r7 r8 g0 g1
      obtain ⟨ga, gb⟩ := g
      dsimp only at p0 p1
      obtain ⟨LB, hLB⟩ : ∃ LB, lawB pl r (ga, gb) = LB := ⟨_, rfl⟩
      have K5 := fun wx => K3.out r ga gb wx
      unfold BoolIs at K5
      rw [hLB] at K5
      have K5 := Lib.hid K5
      have hLB := Lib.hid hLB
      have hkI : (0 : Int) ≤ (k : Int) ∧ (k : Int) < (R.length : Int) := by omega
      have hkGI : (0 : Int) ≤ (k : Int) ∧ (k : Int) < (G.length : Int) := by omega
      have hbw : b < wr.heap.size := by have := hBw.size; omega
      have hbw2 : b2 < wr.heap.size := by have := hBw.size; omega
      have hbw3 : b2 ≤ wr.heap.size := by omega
      have hzw : w.heap.size < wr.heap.size := by omega
      have hzw2 : w.heap.size ≤ wr.heap.size := by omega
      go_upto_region 6 with fail
      refine Plan.wp_region_tree (.rd 0 (.rd 1 (.rd 2 (.rd 3 (.rd 4 (.rd 5 (.wr 6 (.rd 7 .done)))))))) (by kernel_rfl) (by kernel_rfl) ?_
      (repeat (first | (refine Plan.tree_read (v := ?_) rfl rfl ?_ ?_; rotate_left; (focus ((intro wS hSw; have hkS := (bcell hSw).1; try (have hkT := fun (b o : Nat) (h : b < w.heap.size) => hkS b o (by first | omega | (simp; omega) | (simp; done))); go_simp); try with_reducible rfl)); simp only [Act.put, List.setIfInBounds_toArray, List.set_cons_zero, List.set_cons_succ]) | (refine Plan.tree_skip rfl rfl ?_; simp only [Act.put, List.setIfInBounds_toArray, List.set_cons_zero, List.set_cons_succ])))
      (refine Plan.tree_write rfl (fun K hK => ?_); try go_simp)
      go_at_call 25
      (with_reducible refine (K5.out _).mono ?_)
      rintro e1 w1 ⟨rfl, hb1⟩
      have kB := Plan.below_drew_go hb1
      (try go_simp)
      (refine hK.out _ _ (kB) ?_; clear hK K; try simp only [Act.put, List.setIfInBounds_toArray, List.set_cons_zero, List.set_cons_succ])
      (repeat (first | (refine Plan.tree_read (v := ?_) rfl rfl ?_ ?_; rotate_left; (focus ((intro wS hSw; have hkS := (bcell hSw).1; try (have hkT := fun (b o : Nat) (h : b < w.heap.size) => hkS b o (by first | omega | (simp; omega) | (simp; done))); go_simp); try with_reducible rfl)); simp only [Act.put, List.setIfInBounds_toArray, List.set_cons_zero, List.set_cons_succ]) | (refine Plan.tree_skip rfl rfl ?_; simp only [Act.put, List.setIfInBounds_toArray, List.set_cons_zero, List.set_cons_succ])))
      refine Plan.tree_done ?_
      have hb9 : Below wr.heap.size wr w1 := ((Below.refl _ _).alloc (Nat.le_refl _) _).trans (kB.mono (by simp))
      have hX1 := hX.below hb9 hzw
      have hB1 := hBw.trans (hb9.mono (by omega))
      have hz1 : w.heap.size + 1 ≤ w1.heap.size := by have := hb9.size; omega
      cases LB
      · have hF : Hid (chkN pl R S G x = false) := chk_law hlt (by rw [hlaw.out]; exact hLB.out)
        go_wp2_with fail
        go_ret
        exact ⟨ret_bool hF.out.symm, hB1⟩
      · have hN : Hid (∀ i, i < k + 1 → lawfulF pl R G i = true) := lt_succ_all' hlaws.out (by rw [hlaw.out]; exact hLB.out)
        go_wp2_with fail
        clear hX hBw hb1 kB hb9
        go_roundw
        case rel => exact ⟨k + 1, by omega, by go_num, hN, hX1, hB1, hz1⟩
        case measure => simp [intOf]; omega
    · have hke : k = R.length := by omega
      subst hke
      clear K3
      go_wp2_with (first | (go_at_call 26; ((with_reducible refine (K0.out _ hBw).mono ?_); rintro e1 w1 ⟨br, bl, bt, rfl, hL, hb1⟩; have HL := Lib.hid hL; clear hL)) | fail)
      clear K0 x0 x1 x2 x3 x4 x5 x6 x7 x8 x9 x10
      obtain ⟨m1, m2, m3⟩ := HL.out.lt
      have hw1 : w.heap.size + 1 ≤ w1.heap.size := by have := hb1.size; omega
      have hX1 := (hX.below hb1 (by omega)).below (B := w1.heap.size) ((Below.refl _ _).alloc (Nat.le_refl _) (.cells #[.slice (some ⟨br, 0, none⟩) R.length R.length, .slice (some ⟨bl, 0, none⟩) pl.length pl.length, .slice (some ⟨bt, 0, none⟩) pl.length pl.length] 72)) (by omega)
      have hB1 := (hBw.trans (hb1.mono (by omega))).alloc (by omega) (.cells #[.slice (some ⟨br, 0, none⟩) R.length R.length, .slice (some ⟨bl, 0, none⟩) pl.length pl.length, .slice (some ⟨bt, 0, none⟩) pl.length pl.length] 72)
      have hL1 := HL.out.below ((Below.refl _ _).alloc (Nat.le_refl _) (.cells #[.slice (some ⟨br, 0, none⟩) R.length R.length, .slice (some ⟨bl, 0, none⟩) pl.length pl.length, .slice (some ⟨bt, 0, none⟩) pl.length pl.length] 72))
      have hD1 : DayB (w1.alloc (.cells #[.slice (some ⟨br, 0, none⟩) R.length R.length, .slice (some ⟨bl, 0, none⟩) pl.length pl.length, .slice (some ⟨bt, 0, none⟩) pl.length pl.length] 72)) w1.heap.size br bl bt R.length pl.length := heap_alloc_new w1 _
      clear hX hBw hb1 HL hz
      go_loop [52] (fun i => ∃ q : Nat, q ≤ pl.length ∧ i = .int .i64 q ∧ Hid (∀ p, p < q → 0 ≤ lefW pl R S G R.length p)) (fun i => pl.length - (intOf i).toNat)
      case atStart => exact ⟨0, Nat.zero_le _, rfl, fun q hq => absurd hq (Nat.not_lt_zero _)⟩
      case round =>
        obtain ⟨q, hq, rfl, hleft⟩ := hrel
        by_cases hlq : q < pl.length
        · have c0 := hL1.left q hlq
          obtain ⟨V, hV⟩ : ∃ V, lefW pl R S G R.length q = V := ⟨_, rfl⟩
          rw [hV] at c0
          by_cases hV0 : V < 0
          · have hF : Hid (chkN pl R S G x = false) := chk_left hlq (by rw [hV]; exact hV0)
            clear hV
            go_wp2_with fail
            go_ret
            exact ⟨ret_bool hF.out.symm, hB1⟩
          · have hN : Hid (∀ p, p < q + 1 → 0 ≤ lefW pl R S G R.length p) := lt_succ_all' hleft.out (by rw [hV]; omega)
            clear hV
            go_wp2_with fail
            go_round
            case rel => exact ⟨q + 1, by omega, by go_num, hN⟩
            case measure => simp [intOf]; omega
        · have hqe : q = pl.length := by omega
          subst hqe
          have hLF := Lib.hid hleft.out
          clear hleft
          generalize w1.alloc (.cells #[.slice (some ⟨br, 0, none⟩) R.length R.length, .slice (some ⟨bl, 0, none⟩) pl.length pl.length, .slice (some ⟨bt, 0, none⟩) pl.length pl.length] 72) = w2 at hX1 hB1 hL1 hD1 ⊢
          have hz2 : w1.heap.size < w2.heap.size := by
            have h : w2.heap[w1.heap.size]? = _ := hD1
            exact (Array.getElem?_eq_some_iff.1 h).1
          go_wp2_with fail
          clear hmm
          have hbA : Below w2.heap.size w2 (w2.alloc (.map #[] 0)) := (Below.refl _ _).alloc (Nat.le_refl _) _
          go_loopw [62] (fun i wr => ∃ (k : Nat) (m : List ((Int × Int) × Bool)), k ≤ x.length ∧ i = .int .i64 k ∧ MapX wr w2.heap.size excV Value.bool m ∧ Hid (∀ z, getX m z = if z ∈ x.take k then some true else none) ∧ BoxB wr w.heap.size X pl ∧ DayB wr w1.heap.size br bl bt R.length pl.length ∧ LookAt pl R S G br bl bt w1.heap.size wr ∧ Below w.heap.size w wr ∧ w2.heap.size + 1 ≤ wr.heap.size) (fun i _ => x.length - (intOf i).toNat)
          case atStart =>
            refine ⟨0, [], Nat.zero_le _, rfl, MapX.made _ _ _, fun z => by simp [getX], hX1.below hbA (by omega), hD1.below hbA (by omega), hL1.below (hbA.mono (by omega)), hB1.trans (hbA.mono (by omega)), by simp⟩
          case round =>
            clear hbA hX1 hD1 hL1 hB1
            obtain ⟨k, m, hk, rfl, hM, hm, hX, hDy, hL, hBw, hz⟩ := hrel
            by_cases hlx : k < x.length
            · obtain ⟨e, hxe⟩ : ∃ e, x[k]? = some e := ⟨_, List.getElem?_eq_getElem hlx⟩
              obtain ⟨b3, off3, rfl, hb3, z0w, z1w⟩ := HZs.out k e hxe
              have hm2 : Hid (∀ z, getX (putX m e true) z = if z ∈ x.take (k + 1) then some true else none) := put_taken hm.out hxe
              obtain ⟨ea, eb⟩ := e
              dsimp only at z0w z1w
              have z0 := (hBw.cell (p := ⟨b3, off3 + k * 2, none⟩) (by show b3 < _; omega)).trans z0w
              have z1 := (hBw.cell (p := ⟨b3, off3 + k * 2 + 1, none⟩) (by show b3 < _; omega)).trans z1w
              clear hxe z0w z1w
              go_wp2_with (first | (at_mapUpdate; refine wpList_putX _ rfl _ _ _ 74 rfl 51 4 Tryd.keyExc Tryd.underlying74 w2.heap.size m rfl (hM.below (B := wr.heap.size) ((Below.refl _ _).alloc (Nat.le_refl _) _) (by omega)) (ea, eb) true rfl rfl ?_; intro w3 hM3 hg3) | fail)
              have hb3' : Below w2.heap.size wr w3 := ((Below.refl _ _).alloc (by omega) _).trans ((Below.refl _ _).grown hg3 (by simp; omega) (fun i hi => by injection hi with hi; omega))
              have hX3 := hX.below hb3' (by omega)
              have hD3 := hDy.below hb3' (by omega)
              have hL3 := hL.below (hb3'.mono (by omega))
              have hB3 := hBw.trans (hb3'.mono (by omega))
              have hz3 : w2.heap.size + 1 ≤ w3.heap.size := by have := hb3'.size; omega
              clear hX hDy hL hBw hb3' hM hg3
              go_roundw
              case rel => exact ⟨k + 1, putX m (ea, eb) true, by omega, by go_num, hM3, hm2, hX3, hD3, hL3, hB3, hz3⟩
              case measure => simp [intOf]; omega
            · have hke : k = x.length := by omega
              have hmE : Hid (∀ z, getX m z = if z ∈ x then some true else none) := by
                show ∀ z, _
                have := hm.out
                rw [hke, List.take_length] at this
                exact this
              subst hke
              clear hm
              go_wp2_with fail
              have hX0 := hX
              have hD0 := hDy
              have hL0 := hL
              have hB0 := hBw
              have hM0 := hM
              have hz0 := hz
              clear hX hDy hL hBw hM hz
              go_loopw [71] (fun i wr => ∃ k : Nat, k ≤ R.length ∧ i = .int .i64 k ∧ Hid (∀ i, i < k → shortF pl R G i = true → 0 ≤ stopN pl R S G i ∧ ∀ j ∈ wetF G R.length (i + 1), ((rtN R i).id, (rtN R j).id) ∈ x) ∧ MapX wr w2.heap.size excV Value.bool m ∧ BoxB wr w.heap.size X pl ∧ DayB wr w1.heap.size br bl bt R.length pl.length ∧ LookAt pl R S G br bl bt w1.heap.size wr ∧ Below w.heap.size w wr ∧ w2.heap.size + 1 ≤ wr.heap.size) (fun i _ => R.length - (intOf i).toNat)
              case atStart => exact ⟨0, Nat.zero_le _, rfl, fun i hi => absurd hi (Nat.not_lt_zero _), hM0, hX0, hD0, hL0, hB0, hz0⟩
              case round =>
                clear hX0 hD0 hL0 hB0 hM0 hz0
                obtain ⟨k, hk, rfl, hok, hM, hX, hDy, hL, hBw, hz⟩ := hrel
                obtain ⟨x0, x1, x2, x3, x4, x5, x6, x7, x8, x9, x10⟩ := hX.cells
                obtain ⟨y0, y1, y2⟩ := hDy.cells
                by_cases hlt : k < R.length
                case neg =>
                  have hke : k = R.length := by omega
                  subst hke
                  have hF : Hid (chkN pl R S G x = true) := chk_iff.2 ⟨Hle.out, hlaws.out, hLF.out, hok.out⟩
                  clear hok hlaws K1 K2 K4
                  go_wp2_with fail
                  go_ret
                  exact ⟨ret_bool hF.out.symm, hBw⟩
                obtain ⟨r, hxr⟩ : ∃ r, R[k]? = some r := ⟨_, List.getElem?_eq_getElem hlt⟩
                have K5 := Lib.hid (fun wx h => K2.out k wx hlt h)
                have K6 := Lib.hid (fun wx (h : LookAt pl R S G br bl bt w1.heap.size wx) (hM : w1.heap.size ≤ wx.heap.size) => K1.out k br bl bt w1.heap.size wx h hlt hM)
                have K7 := Lib.hid (fun wx h => K4.out k wx hlt h)
                obtain ⟨b, off, rfl, hb, r0, r1, r2, r3, r4, r5, r6, r7, r8⟩ := HRs.out k r hxr
                have hid := Lib.hid (rtN_of hxr)
                obtain ⟨q0, q1, q2, q3, q4, q5, q6, q7, q8⟩ : wr.cell? ⟨b, off + k * 9, none⟩ = some (.int .i64 r.id) ∧ wr.cell? ⟨b, off + k * 9 + 1, none⟩ = some (.int .i64 r.owner) ∧ wr.cell? ⟨b, off + k * 9 + 2, none⟩ = some (.int .i64 r.date) ∧
                  wr.cell? ⟨b, off + k * 9 + 3, none⟩ = some (.int .i64 r.place) ∧ wr.cell? ⟨b, off + k * 9 + 4, none⟩ = some (.int .i64 r.rate) ∧ wr.cell? ⟨b, off + k * 9 + 5, none⟩ = some (.int .i64 r.from1) ∧
                  wr.cell? ⟨b, off + k * 9 + 6, none⟩ = some (.int .i64 r.until1) ∧ wr.cell? ⟨b, off + k * 9 + 7, none⟩ = some (.int .i64 r.back) ∧ wr.cell? ⟨b, off + k * 9 + 8, none⟩ = some (.int .i64 r.backTo) := by
                  have q := fun o => hBw.cell (p := ⟨b, o, none⟩) (by show b < _; omega)
                  exact ⟨(q _).trans r0, (q _).trans r1, (q _).trans r2, (q _).trans r3, (q _).trans r4, (q _).trans r5, (q _).trans r6, (q _).trans r7, (q _).trans r8⟩
                clear r0 r1 r2 r3 r4 r5 r6 r7 r8 hxr
                have hbw : b < wr.heap.size := by have := hBw.size; omega
                have hzw : w.heap.size < wr.heap.size := by omega
                have hzd : w1.heap.size < wr.heap.size := by omega
                have hLh := Lib.hid hL
                cases hF0 : shortF pl R G k
                case false =>
                  have hN : Hid (∀ i, i < k + 1 → shortF pl R G i = true → 0 ≤ stopN pl R S G i ∧ ∀ j ∈ wetF G R.length (i + 1), ((rtN R i).id, (rtN R j).id) ∈ x) := lt_succ_all' hok.out (fun h => by rw [hF0] at h; cases h)
                  have K8 := fun wx h => (K5.out wx h)
                  unfold BoolIs at K8
                  rw [hF0] at K8
                  have K8 := Lib.hid K8
                  clear hF0 K5 K6 K7
                  go_wp2_with (first | (go_at_call 27; ((with_reducible refine (K8.out _ (hBw.alloc (by omega) _)).mono ?_); rintro e2 w3 ⟨rfl, hb2⟩)) | fail)
                  have hb9 : Below wr.heap.size wr w3 := ((Below.refl _ _).alloc (Nat.le_refl _) _).trans (hb2.mono (by simp))
                  have hM1 := hM.below hb9 (by omega)
                  have hX1 := hX.below hb9 hzw
                  have hD1 := hDy.below hb9 hzd
                  have hL1 := hL.below (hb9.mono (by omega))
                  have hB1 := hBw.trans (hb9.mono (by omega))
                  have hz1' : w2.heap.size + 1 ≤ w3.heap.size := by have := hb9.size; omega
                  clear hX hBw hb9 hb2 hDy hL hM
                  go_roundw
                  case rel => exact ⟨k + 1, by omega, by go_num, hN, hM1, hX1, hD1, hL1, hB1, hz1'⟩
                  case measure => simp [intOf]; omega
                have K8 := fun wx h => (K5.out wx h)
                unfold BoolIs at K8
                rw [hF0] at K8
                have K8 := Lib.hid K8
                obtain ⟨sv, hsv⟩ : ∃ sv, stopN pl R S G k = sv := ⟨_, rfl⟩
                have K9 := fun wx h hM => (K6.out wx h hM)
                unfold IntBe at K9
                rw [hsv] at K9
                have K9 := Lib.hid K9
                clear K5 K6
                by_cases hst : 0 ≤ sv
                case neg =>
                  have hF : Hid (chkN pl R S G x = false) := chk_stop hlt hF0 (by rw [hsv]; exact hst)
                  clear hF0 hsv hok
                  go_wp2_with (first | (go_at_call 27; ((with_reducible refine (K8.out _ (hBw.alloc (by omega) _)).mono ?_); rintro e2 w3 ⟨rfl, hb2⟩; have hb9 : Below wr.heap.size wr w3 := ((Below.refl _ _).alloc (Nat.le_refl _) _).trans (hb2.mono (by simp)); have kc := (bcell hb9).1)) | (go_at_call 28; ((with_reducible refine (K9.out _ (hLh.out.below (hb9.mono (by omega))) (by have := hb9.size; omega)).mono ?_); rintro e3 w4 ⟨rfl, hb3⟩)) | fail)
                  go_ret
                  exact ⟨ret_bool hF.out.symm, (hBw.trans (hb9.mono (by omega))).trans (hb3.mono (by have := hb9.size; omega))⟩
                have hF1 := Lib.hid hF0
                have hst1 : Hid (0 ≤ stopN pl R S G k) := by show 0 ≤ _; rw [hsv]; exact hst
                obtain ⟨n, hn⟩ : ∃ n : Nat, Hid ((wetF G R.length (k + 1)).length = n) := ⟨_, rfl⟩
                have hnl : n ≤ 1000 := by have := wetF_len (G := G) R.length (k + 1); have := hn.out; omega
                have K10 : Hid (∀ wx : World, Below w.heap.size w wx → Calls Tryd.prog 29 #[.slice (some ⟨b, off, none⟩) R.length cr, .slice D G.length cg, .int .i64 ((k : Int) + 1)] wx fun e w' => ∃ E1 ee, e = .returned (.slice E1 n ee) ∧ IntsAt w' w'.heap.size E1 (natsI (wetF G R.length (k + 1))) ∧ Below wx.heap.size wx w') := fun wx h => (K7.out wx h).mono fun e w' ⟨E1, ee, he, h1, h3, h2⟩ => ⟨E1, ee, by rw [he, hn.out], h1, h2⟩
                clear hF0 hsv K7
                go_wp2_with (first | (go_at_call 27; ((with_reducible refine (K8.out _ (hBw.alloc (by omega) _)).mono ?_); rintro e2 w3 ⟨rfl, hb2⟩; have hb9 : Below wr.heap.size wr w3 := ((Below.refl _ _).alloc (Nat.le_refl _) _).trans (hb2.mono (by simp)); have kc := (bcell hb9).1)) | (go_at_call 28; ((with_reducible refine (K9.out _ (hLh.out.below (hb9.mono (by omega))) (by have := hb9.size; omega)).mono ?_); rintro e3 w4 ⟨rfl, hb3⟩; have hb10 := hb9.trans (hb3.mono hb9.size))) | (go_at_call 29; ((with_reducible refine (K10.out _ (hBw.trans (hb10.mono (by omega)))).mono ?_); rintro e4 w5 ⟨E1, ee, rfl, hI, hb4⟩)) | fail)
                have hb11 := hb10.trans (hb4.mono hb10.size)
                have hM1 := hM.below hb11 (by omega)
                have hX1 := hX.below hb11 hzw
                have hD1 := hDy.below hb11 hzd
                have hL1 := hL.below (hb11.mono (by omega))
                have hB1 := hBw.trans (hb11.mono (by omega))
                have hz1' : wr.heap.size + 1 ≤ w5.heap.size := by have h1 := hb2.size; have h2 := hb3.size; have h3 := hb4.size; simp at h1; omega
                have p0 : w5.cell? ⟨wr.heap.size, 0, none⟩ = some (.int .i64 r.id) := by
                  rw [hb4.cell (p := ⟨wr.heap.size, 0, none⟩) (by have h1 := hb2.size; have h2 := hb3.size; simp at h1; show wr.heap.size < _; omega), hb3.cell (p := ⟨wr.heap.size, 0, none⟩) (by have h1 := hb2.size; simp at h1; show wr.heap.size < _; omega), hb2.cell (p := ⟨wr.heap.size, 0, none⟩) (by simp)]
                  go_simp
                clear hX hBw hb9 hb2 hDy hL kc hb3 hb10 hb4 hb11 x0 x1 x2 x3 x4 x5 x6 x7 x8 x9 x10 y0 y1 y2 q0 q1 q2 q3 q4 q5 q6 q7 q8 K8 K9 K10 hM
                obtain ⟨wo, rfl⟩ : ∃ wo, wo = wr := ⟨_, rfl⟩
                go_loopw [92] (fun i wr => ∃ j : Nat, j ≤ n ∧ i = .int .i64 j ∧ Hid (∀ p ∈ (wetF G R.length (k + 1)).take j, ((rtN R k).id, (rtN R p).id) ∈ x) ∧ Below w5.heap.size w5 wr) (fun i _ => n - (intOf i).toNat)
                case atStart => exact ⟨0, Nat.zero_le _, rfl, fun p hp => by simp at hp, Below.refl _ _⟩
                case round =>
                  obtain ⟨j, hj, rfl, hin, hBy⟩ := hrel
                  have hMr := hM1.below hBy (by omega)
                  have hXr := hX1.below hBy (by omega)
                  have hDr := hD1.below hBy (by omega)
                  have hLr := hL1.below (hBy.mono (by omega))
                  have hBr := hB1.trans (hBy.mono (by have := hB1.size; omega))
                  have hzr : w2.heap.size + 1 ≤ wr.heap.size := by have := hBy.size; omega
                  by_cases hjl : j < n
                  case neg =>
                    have hN : Hid (∀ i, i < k + 1 → shortF pl R G i = true → 0 ≤ stopN pl R S G i ∧ ∀ j ∈ wetF G R.length (i + 1), ((rtN R i).id, (rtN R j).id) ∈ x) := by
                      refine lt_succ_all' hok.out (fun _ => ⟨hst1.out, ?_⟩)
                      have := hin.out
                      rw [show j = (wetF G R.length (k + 1)).length by rw [hn.out]; omega, List.take_length] at this
                      exact this
                    clear hin
                    go_wp2_with fail
                    go_roundw
                    case rel => exact ⟨k + 1, by omega, by go_num, hN, hMr, hXr, hDr, hLr, hBr, hzr⟩
                    case measure => simp [intOf]; omega
                  obtain ⟨jj, hq⟩ : ∃ jj, (wetF G R.length (k + 1))[j]? = some jj := ⟨_, List.getElem?_eq_getElem (by rw [hn.out]; exact hjl)⟩
                  have hjm := List.mem_of_getElem? hq
                  have hjr : jj < R.length := wetF_lt hjm
                  have hqI : (natsI (wetF G R.length (k + 1)))[j]? = some (jj : Int) := by unfold natsI; rw [List.getElem?_map, hq]; rfl
                  obtain ⟨r2, hx2⟩ : ∃ r2, R[jj]? = some r2 := ⟨_, List.getElem?_eq_getElem hjr⟩
                  obtain ⟨b', off', e', hb', s0, _⟩ := HRs.out jj r2 hx2
                  obtain ⟨rfl, rfl⟩ : b = b' ∧ off = off' := by injection e' with e'; injection e' with e1 e2; exact ⟨e1, e2⟩
                  have s1 := (hBr.cell (p := ⟨b, off + jj * 9, none⟩) (by show b < _; omega)).trans s0
                  have p1 := (hBy.cell (p := ⟨wo.heap.size, 0, none⟩) (by show wo.heap.size < _; omega)).trans p0
                  obtain ⟨b5, off5, rfl, hb5, c5w⟩ := hI.at_ hqI
                  have c5 := (hBy.cell (p := ⟨b5, off5 + j, none⟩) hb5).trans c5w
                  have hid2 := Lib.hid (rtN_of hx2)
                  have hjI : (0 : Int) ≤ (jj : Int) ∧ (jj : Int) < (R.length : Int) := by omega
                  have hgx := hmE.out (r.id, r2.id)
                  have hlk : Hid (∀ wx : World, Below wr.heap.size wr wx → (Instr.lookup 74 (.map (some w2.heap.size)) (.agg #[.int .i64 r.id, .int .i64 r2.id]) false).run Tryd.prog wx = .ok (.bool (decide ((r.id, r2.id) ∈ x))) wx) := fun wx hb => by
                    have h := (hMr.below hb (by omega)).lookup Tryd.keyExc Tryd.underlying74 (Tryd.zeroB wx) (r.id, r2.id)
                    rw [hgx] at h
                    by_cases g : (r.id, r2.id) ∈ x
                    · rw [if_pos g] at h
                      rw [decide_eq_true g]; exact h
                    · rw [if_neg g] at h
                      rw [decide_eq_false g]; exact h
                  have hbw2 : b < wr.heap.size := by have := hBr.size; omega
                  have hzo2 : wo.heap.size < wr.heap.size := by have := hBy.size; omega
                  have hb5r : b5 < wr.heap.size := by have := hBy.size; omega
                  by_cases hmx : (r.id, r2.id) ∈ x
                  · have hlk := hlk.out
                    rw [decide_eq_true hmx] at hlk
                    have hN : Hid (∀ p ∈ (wetF G R.length (k + 1)).take (j + 1), ((rtN R k).id, (rtN R p).id) ∈ x) := by
                      intro p hp
                      rw [List.take_add_one, hq] at hp
                      rcases List.mem_append.1 hp with h | h
                      · exact hin.out p h
                      · simp at h; subst h; rw [hid.out, hid2.out]; exact hmx
                    clear hq hqI e' s0 hx2 hgx hmx hin hjm c5w
                    go_upto_region 31 with fail
                    refine Plan.wp_region_tree (.rd 0 (.rd 1 (.rd 2 (.rd 3 (.rd 4 (.rd 5 (.rd 6 (.rd 7 (.rd 8 (.rd 9 (.rd 10 .done))))))))))) (by kernel_rfl) (by kernel_rfl) ?_
                    (repeat (first | (refine Plan.tree_read (v := ?_) rfl rfl ?_ ?_; rotate_left; (focus ((intro wS hSw; have hkS := (bcell hSw).1; try (have hkT := fun (b o : Nat) (h : b < w.heap.size) => hkS b o (by first | omega | (simp; omega) | (simp; done))); go_simp); try with_reducible rfl)); simp only [Act.put, List.setIfInBounds_toArray, List.set_cons_zero, List.set_cons_succ]) | (refine Plan.tree_skip rfl rfl ?_; simp only [Act.put, List.setIfInBounds_toArray, List.set_cons_zero, List.set_cons_succ])))
                    refine Plan.tree_done ?_
                    clear hlk
                    go_wp2_with fail
                    go_roundw
                    case rel => exact ⟨j + 1, by omega, by go_num, hN, hBy.drew⟩
                    case measure => simp [intOf]; omega
                  · have hlk := hlk.out
                    rw [decide_eq_false hmx] at hlk
                    have hF : Hid (chkN pl R S G x = false) := chk_exc hlt hF1.out hjm (by rw [hid.out, hid2.out]; exact hmx)
                    clear hq hqI e' s0 hx2 hgx hmx hin hjm c5w
                    go_upto_region 31 with fail
                    refine Plan.wp_region_tree (.rd 0 (.rd 1 (.rd 2 (.rd 3 (.rd 4 (.rd 5 (.rd 6 (.rd 7 (.rd 8 (.rd 9 (.rd 10 .done))))))))))) (by kernel_rfl) (by kernel_rfl) ?_
                    (repeat (first | (refine Plan.tree_read (v := ?_) rfl rfl ?_ ?_; rotate_left; (focus ((intro wS hSw; have hkS := (bcell hSw).1; try (have hkT := fun (b o : Nat) (h : b < w.heap.size) => hkS b o (by first | omega | (simp; omega) | (simp; done))); go_simp); try with_reducible rfl)); simp only [Act.put, List.setIfInBounds_toArray, List.set_cons_zero, List.set_cons_succ]) | (refine Plan.tree_skip rfl rfl ?_; simp only [Act.put, List.setIfInBounds_toArray, List.set_cons_zero, List.set_cons_succ])))
                    refine Plan.tree_done ?_
                    clear hlk
                    go_wp2_with fail
                    go_ret
                    exact ⟨ret_bool hF.out.symm, hBr.drew⟩
end Go.Proofs.YtkbceeobnbbfbaaDoor

