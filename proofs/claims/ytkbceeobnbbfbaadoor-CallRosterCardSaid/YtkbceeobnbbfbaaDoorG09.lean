/- Joined of: V12 V13 V5 V14 MapX CK0 V2. -/
import Derived.Deep.AppendLies
import Derived.Maps.Own
import Derived.Laws.StructEq
import Derived.Test.YtkbceeobnbbfbaaDoorG08
import Derived.Test.YtkbceeobnbbfbaaDoorG07
import Derived.Test.YtkbceeobnbbfbaaDoorG05
/- The walk of Excuses. -/
set_option linter.unusedSimpArgs false
set_option linter.unusedVariables false
namespace Go.Proofs.YtkbceeobnbbfbaaDoor
open Go.RowKit CM
attribute [local go_sem] alloc_drewN setCell_drewN shape_drewN

def excN (pl : Pl) (R : List Rt) (S : List Int) (G : List (Int × Int)) : List (Int × Int) := excL pl R (supF S) S.length G
/-- The excuses of the i-th right. -/
def excI (pl : Pl) (R : List Rt) (S : List Int) (G : List (Int × Int)) (i : Nat) : List (Int × Int) :=
  if shortF pl R G i && decide (0 ≤ stopN pl R S G i) then (wetF G R.length (i + 1)).map (fun j => ((rtN R i).id, (rtN R j).id)) else []
def excT (pl : Pl) (R : List Rt) (S : List Int) (G : List (Int × Int)) (k : Nat) : List (Int × Int) := (List.range k).flatMap (excI pl R S G)
section
variable {pl : Pl} {R : List Rt} {S : List Int} {G : List (Int × Int)}
theorem excT_end : excT pl R S G R.length = excN pl R S G := rfl
theorem excT_succ (k : Nat) : excT pl R S G (k + 1) = excT pl R S G k ++ excI pl R S G k := by
  unfold excT; rw [List.range_succ, List.flatMap_append]; simp
theorem wetF_len (m i : Nat) : (wetF G m i).length ≤ m := wetT_len G i m
theorem excI_len (k : Nat) : (excI pl R S G k).length ≤ R.length := by
  unfold excI
  split
  · rw [List.length_map]; exact wetF_len _ _
  · simp
theorem excT_len : ∀ k, (excT pl R S G k).length ≤ k * R.length
  | 0 => by simp [excT]
  | k + 1 => by
    have ih := excT_len k
    have := excI_len (pl := pl) (R := R) (S := S) (G := G) k
    rw [excT_succ, List.length_append, Nat.add_mul]; omega
theorem wetF_lt {m i j : Nat} (h : j ∈ wetF G m i) : j < m := List.mem_range.1 (List.mem_filter.1 h).1
end
theorem Tryd.infoExcuse : (Tryd.prog.info? 51).map (fun i => (i.zero, i.size, i.bytes)) = some (some (.agg #[.int .i64 0, .int .i64 0]), 2, 16) := by kernel_rfl
theorem owns_cap {w : World} {base e size n : Nat} {v : Value} {xs : List Value} (h : w.ownsRow base e size v n xs) {C : Option Addr} {l cc : Nat} (hv : v = .slice C l cc) : l ≤ cc := by
  rcases h.2 with ⟨e1, _⟩ | ⟨g, cap, cur, e1, _, _, hle, _⟩
  · rw [hv] at e1; injection e1 with _ a b; omega
  · rw [hv] at e1; injection e1 with _ a b; omega
def PairsRes (l : List (Int × Int)) (w : World) (e : Ending) (w' : World) : Prop := ∃ C cc, e = .returned (.slice C l.length cc) ∧ l.length ≤ cc ∧ PairsAt w' w'.heap.size C l ∧ Below w.heap.size w w'
/-- The three slices that look leaves, in a block of their own. -/
def DayB (w : World) (hd : Nat) (br bl bt n m : Nat) : Prop := w.heap[hd]? = some (.cells #[.slice (some ⟨br, 0, none⟩) n n, .slice (some ⟨bl, 0, none⟩) m m, .slice (some ⟨bt, 0, none⟩) m m] 72 (0, 0))
theorem DayB.cells {w : World} {hd br bl bt n m : Nat} (h : DayB w hd br bl bt n m) : w.cell? ⟨hd, 0, none⟩ = some (.slice (some ⟨br, 0, none⟩) n n) ∧ w.cell? ⟨hd, 1, none⟩ = some (.slice (some ⟨bl, 0, none⟩) m m) ∧ w.cell? ⟨hd, 2, none⟩ = some (.slice (some ⟨bt, 0, none⟩) m m) := by
  have h : w.heap[hd]? = _ := h
  refine ⟨?_, ?_, ?_⟩ <;> simp [World.cell?, h]
theorem DayB.below {w w' : World} {hd br bl bt n m B : Nat} (h : DayB w hd br bl bt n m) (hb : Below B w w') (hlt : hd < B) : DayB w' hd br bl bt n m := (hb.block hd hlt).trans h
theorem IntsAt.grown {w w' : World} {row : Option Nat} {B : Nat} {C : Option Addr} {l : List Int} (h : IntsAt w B C l) (hB : B ≤ w.heap.size) (hG : w.grownBy w' row) (hne : ∀ a, C = some a → some a.block ≠ row) : IntsAt w' B C l := by
  intro hm
  obtain ⟨b, off, e, hb, hc⟩ := h hm
  exact ⟨b, off, e, hb, fun j hj => (Plan.grown_cells hG b _ (by omega) (hne _ e)).trans (hc j hj)⟩
set_option maxRecDepth 100000 in
set_option maxHeartbeats 8000000 in
theorem excuses_any (X : Bas) (pl : Pl) (R : List Rt) (S : List Int) (G : List (Int × Int)) (C : Option Addr) (cr : Nat) (E : Option Addr) (cs : Nat) (D : Option Addr) (cg : Nat) (w : World) {B : Nat} (hP : PlacesAt w B X.P pl) (hR : RightsAt w B C R) (hE : IntsAt w B E S) (hG : PairsAt w B D G) (hB : B ≤ w.heap.size)
    (hl : pl.length ≤ 1000000) (hr : R.length ≤ 1000) (hg : G.length ≤ 1000000) (hs : S.length ≤ 9223372036854775807) (hS : ∀ x ∈ S, In64 x) :
    Calls Tryd.prog 10 #[.agg #[.string X.nm, .slice X.a1 X.l1 X.c1, .int .i64 X.cl, .slice X.P pl.length X.cP, .slice X.a4 X.l4 X.c4, .slice X.a5 X.l5 X.c5, .slice X.a6 X.l6 X.c6, .slice X.a7 X.l7 X.c7, .slice X.a8 X.l8 X.c8, .slice X.a9 X.l9 X.c9, .int .i64 X.er], .slice C R.length cr, .slice E S.length cs, .slice D G.length cg] w (PairsRes (excN pl R S G) w) := by
  obtain ⟨g0, gi, gz0, gz1, gz2⟩ := info_parts Tryd.infoExcuse
  have K1 := Lib.hid (fun (wx : World) (h : Below w.heap.size w wx) => look_any X pl R S G C cr E cs D cg wx (B := B) (hP.below (h.mono hB)) (hR.below (h.mono hB)) (hE.below (h.mono hB)) (hG.below (h.mono hB)) (by have := h.size; omega) hl (by omega) hg hs hS)
  have K2 := Lib.hid (fun (k br bl bt M : Nat) (wx : World) (h : LookAt pl R S G br bl bt M wx) (hk : k < R.length) (hM : M ≤ wx.heap.size) => stop_any pl R S G br bl bt M k wx h hk hM hl (by omega))
  have K3 := Lib.hid (fun (k : Nat) (wx : World) (hk : k < R.length) (h : Below w.heap.size w wx) => short_any X pl R G C cr D cg k wx (B := B) (hR.below (h.mono hB)) (hG.below (h.mono hB)) (by have := h.size; omega) hl (by omega) hg hk)
  have K4 : Hid (∀ (k : Nat) (wx : World), k < R.length → Below w.heap.size w wx → Calls Tryd.prog 29 #[.slice C R.length cr, .slice D G.length cg, .int .i64 ((k : Int) + 1)] wx (ReachIs (wetF G R.length (k + 1)) wx)) := fun k wx hk h => by
    have q := wet_any R G C cr D cg (k + 1) wx (B := B) (hG.below (h.mono hB)) (by have := h.size; omega) (by omega) hg (by omega)
    rwa [Int.natCast_succ] at q
  go_enter Tryd.func10, Tryd.ntmps10
  go_wp2_with (first | (go_at_call 26; ((with_reducible refine (K1.out _ ((Below.refl _ _).alloc (Nat.le_refl _) _)).mono ?_); rintro e1 w1 ⟨br, bl, bt, rfl, hL, hb1⟩; have HL := Lib.hid hL; clear hL)) | fail)
  clear K1
  go_loopw [10, 22] (fun out i wr => ∃ k : Nat, k ≤ R.length ∧ i = .int .i64 k ∧ wr.ownsRow (w1.heap.size + 1) 51 2 out (excT pl R S G k).length (rowP (excT pl R S G k)) ∧ BoxB wr w.heap.size X pl ∧ DayB wr w1.heap.size br bl bt R.length pl.length ∧ LookAt pl R S G br bl bt w1.heap.size wr ∧ Below w.heap.size w wr ∧ w1.heap.size + 1 ≤ wr.heap.size) (fun _ i _ => R.length - (intOf i).toNat)
  case atStart =>
    refine ⟨0, Nat.zero_le _, rfl, World.ownsRow_nil _ _ _ _, ?_, heap_alloc_new w1 _, HL.out.below ((Below.refl _ _).alloc (Nat.le_refl _) _), ?_, by simp⟩
    · exact ((BoxB.new w X pl).below (B := w.heap.size + 1) (hb1.mono (by simp)) (by omega)).below (B := w.heap.size + 1) ((Below.refl _ _).alloc (by have := hb1.size; simpa using this) _) (by omega)
    · exact (((Below.refl _ _).alloc (Nat.le_refl _) _).trans (hb1.mono (by simp))).alloc (by have := hb1.size; simp at this; omega) _
  case round =>
    have hw1 : w.heap.size + 1 ≤ w1.heap.size := by have := hb1.size; simpa using this
    clear HL hb1
    obtain ⟨k, hk, rfl, hrow, hX, hDy, hL, hBw, hz⟩ := hrel
    obtain ⟨x0, x1, x2, x3, x4, x5, x6, x7, x8, x9, x10⟩ := hX.cells
    obtain ⟨y0, y1, y2⟩ := hDy.cells
    by_cases hlt : k < R.length
    case neg =>
      have hke : k = R.length := by omega
      subst hke
      rw [excT_end] at hrow
      obtain ⟨F1, cc, he1, hI⟩ := pairs_of_owns hrow
      have hcap := owns_cap hrow he1
      subst he1
      clear hrow K2 K3 K4
      go_wp2_with fail
      go_ret
      exact ⟨F1, cc, rfl, hcap, hI, hBw⟩
    have hTl := excT_len (pl := pl) (R := R) (S := S) (G := G) k
    have hTk : k * R.length ≤ 1000000 := Nat.le_trans (Nat.mul_le_mul (by omega : k ≤ 1000) hr) (by omega)
    obtain ⟨r, hx⟩ : ∃ r, R[k]? = some r := ⟨_, List.getElem?_eq_getElem hlt⟩
    have K5 := Lib.hid (fun wx h => K3.out k wx hlt h)
    have K6 := Lib.hid (fun wx (h : LookAt pl R S G br bl bt w1.heap.size wx) (hM : w1.heap.size ≤ wx.heap.size) => K2.out k br bl bt w1.heap.size wx h hlt hM)
    have K7 := Lib.hid (fun wx h => K4.out k wx hlt h)
    have hsucc := excT_succ (pl := pl) (R := R) (S := S) (G := G) k
    have hI0 : excI pl R S G k = if shortF pl R G k && decide (0 ≤ stopN pl R S G k) then (wetF G R.length (k + 1)).map (fun j => ((rtN R k).id, (rtN R j).id)) else [] := rfl
    rw [rtN_of hx] at hI0
    clear K3 K2 K4
    obtain ⟨b, off, rfl, hb, r0w, r1, r2, r3, r4, r5, r6, r7, r8⟩ := hR.at_ hx
    obtain ⟨q0, q1, q2, q3, q4, q5, q6, q7, q8⟩ : wr.cell? ⟨b, off + k * 9, none⟩ = some (.int .i64 r.id) ∧ wr.cell? ⟨b, off + k * 9 + 1, none⟩ = some (.int .i64 r.owner) ∧ wr.cell? ⟨b, off + k * 9 + 2, none⟩ = some (.int .i64 r.date) ∧
      wr.cell? ⟨b, off + k * 9 + 3, none⟩ = some (.int .i64 r.place) ∧ wr.cell? ⟨b, off + k * 9 + 4, none⟩ = some (.int .i64 r.rate) ∧ wr.cell? ⟨b, off + k * 9 + 5, none⟩ = some (.int .i64 r.from1) ∧
      wr.cell? ⟨b, off + k * 9 + 6, none⟩ = some (.int .i64 r.until1) ∧ wr.cell? ⟨b, off + k * 9 + 7, none⟩ = some (.int .i64 r.back) ∧ wr.cell? ⟨b, off + k * 9 + 8, none⟩ = some (.int .i64 r.backTo) := by
      have q := fun o => hBw.cell (p := ⟨b, o, none⟩) (by show b < _; omega)
      exact ⟨(q _).trans r0w, (q _).trans r1, (q _).trans r2, (q _).trans r3, (q _).trans r4, (q _).trans r5, (q _).trans r6, (q _).trans r7, (q _).trans r8⟩
    clear r0w r1 r2 r3 r4 r5 r6 r7 r8 hx
    have hbw : b < wr.heap.size := by have := hBw.size; omega
    have hzw : w.heap.size < wr.heap.size := by omega
    have hzd : w1.heap.size < wr.heap.size := by omega
    cases hF : shortF pl R G k
    case false =>
      have hs : Hid (excT pl R S G (k + 1) = excT pl R S G k) := by show _ = _; rw [hsucc, hI0, hF]; simp
      have K8 := fun wx h => (K5.out wx h)
      unfold BoolIs at K8
      rw [hF] at K8
      have K8 := Lib.hid K8
      clear hF K5 hsucc hI0
      go_wp2_with (first | (go_at_call 27; ((with_reducible refine (K8.out _ (hBw.alloc (by omega) _)).mono ?_); rintro e2 w2 ⟨rfl, hb2⟩)) | fail)
      have hb9 : Below wr.heap.size wr w2 := ((Below.refl _ _).alloc (Nat.le_refl _) _).trans (hb2.mono (by simp))
      have hrow1 := row_below hrow hb9
      have hX1 := hX.below hb9 hzw
      have hD1 := hDy.below hb9 hzd
      have hL1 := hL.below (hb9.mono (by omega))
      have hB1 := hBw.trans (hb9.mono (by omega))
      have hz1' : w1.heap.size + 1 ≤ w2.heap.size := by have := hb9.size; omega
      clear hrow hX hBw hb9 hb2 hDy hL
      go_roundw
      case rel => exact ⟨k + 1, by omega, by go_num, by rw [hs.out]; exact hrow1, hX1, hD1, hL1, hB1, hz1'⟩
      case measure => simp [intOf]; omega
    have K8 := fun wx h => (K5.out wx h)
    unfold BoolIs at K8
    rw [hF] at K8
    have K8 := Lib.hid K8
    obtain ⟨sv, hsv⟩ : ∃ sv, stopN pl R S G k = sv := ⟨_, rfl⟩
    have K9 := fun wx h hM => (K6.out wx h hM)
    unfold IntBe at K9
    rw [hsv] at K9
    have K9 := Lib.hid K9
    clear K5 K6
    have hLh := Lib.hid hL
    by_cases hst : 0 ≤ sv
    case neg =>
      have hs : Hid (excT pl R S G (k + 1) = excT pl R S G k) := by show _ = _; rw [hsucc, hI0, hF, hsv, decide_eq_false hst]; simp
      clear hF hsucc hI0 hsv
      go_wp2_with (first | (go_at_call 27; ((with_reducible refine (K8.out _ (hBw.alloc (by omega) _)).mono ?_); rintro e2 w2 ⟨rfl, hb2⟩; have hb9 : Below wr.heap.size wr w2 := ((Below.refl _ _).alloc (Nat.le_refl _) _).trans (hb2.mono (by simp)); have kc := (bcell hb9).1)) | (go_at_call 28; ((with_reducible refine (K9.out _ (hLh.out.below (hb9.mono (by omega))) (by have := hb9.size; omega)).mono ?_); rintro e3 w3 ⟨rfl, hb3⟩)) | fail)
      have hb10 := hb9.trans (hb3.mono hb9.size)
      have hrow1 := row_below hrow hb10
      have hX1 := hX.below hb10 hzw
      have hD1 := hDy.below hb10 hzd
      have hL1 := hL.below (hb10.mono (by omega))
      have hB1 := hBw.trans (hb10.mono (by omega))
      have hz1' : w1.heap.size + 1 ≤ w3.heap.size := by have := hb10.size; omega
      clear hrow hX hBw hb9 hb2 hDy hL kc hb3 hb10
      go_roundw
      case rel => exact ⟨k + 1, by omega, by go_num, by rw [hs.out]; exact hrow1, hX1, hD1, hL1, hB1, hz1'⟩
      case measure => simp [intOf]; omega
    have hIe : Hid (excI pl R S G k = (wetF G R.length (k + 1)).map (fun j => (r.id, (rtN R j).id))) := by show _ = _; rw [hI0, hF, hsv, decide_eq_true hst]; rfl
    obtain ⟨n, hn⟩ : ∃ n : Nat, Hid ((wetF G R.length (k + 1)).length = n) := ⟨_, rfl⟩
    have hnl : n ≤ 1000 := by have := wetF_len (G := G) R.length (k + 1); have := hn.out; omega
    have K10 : Hid (∀ wx : World, Below w.heap.size w wx → Calls Tryd.prog 29 #[.slice (some ⟨b, off, none⟩) R.length cr, .slice D G.length cg, .int .i64 ((k : Int) + 1)] wx fun e w' => ∃ E1 ee, e = .returned (.slice E1 n ee) ∧ IntsAt w' w'.heap.size E1 (natsI (wetF G R.length (k + 1))) ∧ (∀ a, E1 = some a → wx.heap.size ≤ a.block) ∧ Below wx.heap.size wx w') := fun wx h => (K7.out wx h).mono fun e w' ⟨E1, ee, he, h1, h3, h2⟩ => ⟨E1, ee, by rw [he, hn.out], h1, h3, h2⟩
    clear hF hI0 hsv K7
    go_wp2_with (first | (go_at_call 27; ((with_reducible refine (K8.out _ (hBw.alloc (by omega) _)).mono ?_); rintro e2 w2 ⟨rfl, hb2⟩; have hb9 : Below wr.heap.size wr w2 := ((Below.refl _ _).alloc (Nat.le_refl _) _).trans (hb2.mono (by simp)); have kc := (bcell hb9).1)) | (go_at_call 28; ((with_reducible refine (K9.out _ (hLh.out.below (hb9.mono (by omega))) (by have := hb9.size; omega)).mono ?_); rintro e3 w3 ⟨rfl, hb3⟩; have hb10 := hb9.trans (hb3.mono hb9.size))) | (go_at_call 29; ((with_reducible refine (K10.out _ (hBw.trans (hb10.mono (by omega)))).mono ?_); rintro e4 w4 ⟨E1, ee, rfl, hI, hFr, hb4⟩)) | fail)
    have hb11 := hb10.trans (hb4.mono hb10.size)
    have hne0 : ∀ a, E1 = some a → ∀ g, u10.ownBlock = some g → g ≠ a.block := fun a ha g hg => by
      have h1 := (hrow.lt g hg).2
      have h2 := hFr a ha
      have h3 := hb10.size
      omega
    have hne1 : ∀ g, u10.ownBlock = some g → g ≠ wr.heap.size := fun g hg => by have := (hrow.lt g hg).2; omega
    have hrow1 := row_below hrow hb11
    have hX1 := hX.below hb11 hzw
    have hD1 := hDy.below hb11 hzd
    have hL1 := hL.below (hb11.mono (by omega))
    have hB1 := hBw.trans (hb11.mono (by omega))
    have hz1' : wr.heap.size + 1 ≤ w4.heap.size := by have h1 := hb2.size; have h2 := hb3.size; have h3 := hb4.size; simp at h1; omega
    have p0 : w4.cell? ⟨wr.heap.size, 0, none⟩ = some (.int .i64 r.id) := by
      rw [hb4.cell (p := ⟨wr.heap.size, 0, none⟩) (by have h1 := hb2.size; have h2 := hb3.size; simp at h1; show wr.heap.size < _; omega), hb3.cell (p := ⟨wr.heap.size, 0, none⟩) (by have h1 := hb2.size; simp at h1; show wr.heap.size < _; omega), hb2.cell (p := ⟨wr.heap.size, 0, none⟩) (by simp)]
      go_simp
    clear hrow hX hBw hb9 hb2 hDy hL kc hb3 hb10 hb4 hb11 x0 x1 x2 x3 x4 x5 x6 x7 x8 x9 x10 y0 y1 y2 q0 q1 q2 q3 q4 q5 q6 q7 q8 K8 K9 K10
    obtain ⟨wo, rfl⟩ : ∃ wo, wo = wr := ⟨_, rfl⟩
    clear hFr
    go_loopw [10, 45] (fun out i wr => ∃ j : Nat, j ≤ n ∧ i = .int .i64 j ∧ wr.ownsRow (w1.heap.size + 1) 51 2 out ((excT pl R S G k).length + j) (rowP (excT pl R S G k ++ (excI pl R S G k).take j)) ∧ (∀ a, E1 = some a → ∀ g, out.ownBlock = some g → g ≠ a.block ∧ g ≠ wo.heap.size) ∧ wr.cell? ⟨wo.heap.size, 0, none⟩ = some (.int .i64 r.id) ∧ BoxB wr w.heap.size X pl ∧ DayB wr w1.heap.size br bl bt R.length pl.length ∧ LookAt pl R S G br bl bt w1.heap.size wr ∧ Below w.heap.size w wr ∧ wo.heap.size + 1 ≤ wr.heap.size ∧ IntsAt wr wr.heap.size E1 (natsI (wetF G R.length (k + 1)))) (fun _ i _ => n - (intOf i).toNat)
    case atStart =>
      refine ⟨0, Nat.zero_le _, rfl, ?_, fun a ha g hg => ⟨hne0 a ha g hg, hne1 g hg⟩, p0, hX1, hD1, hL1, hB1, hz1', hI⟩
      rw [List.take_zero, List.append_nil]; exact hrow1
    case round =>
      clear hrow1 hX1 hD1 hL1 hB1 hz1' hI p0 hne0 hne1
      obtain ⟨j, hj, rfl, hrow, hne, p0, hX, hDy, hL, hBw, hz2, hI⟩ := hrel
      by_cases hjl : j < n
      case neg =>
        have hje : Hid (j = (excI pl R S G k).length) := by show _ = _; rw [hIe.out, List.length_map, hn.out]; omega
        have hr9 : wr.ownsRow (w1.heap.size + 1) 51 2 u10 (excT pl R S G (k + 1)).length (rowP (excT pl R S G (k + 1))) := by
          have := hrow
          rw [hje.out, List.take_length, ← List.length_append, ← hsucc] at this
          exact this
        have hz3 : w1.heap.size + 1 ≤ wr.heap.size := by omega
        clear hrow hsucc
        go_wp2_with fail
        go_roundw
        case rel => exact ⟨k + 1, by omega, by go_num, hr9, hX, hDy, hL, hBw, hz3⟩
        case measure => simp [intOf]; omega
      obtain ⟨jj, hq⟩ : ∃ jj, (wetF G R.length (k + 1))[j]? = some jj := ⟨_, List.getElem?_eq_getElem (by rw [hn.out]; exact hjl)⟩
      have hjr : jj < R.length := wetF_lt (List.mem_of_getElem? hq)
      have hqI : (natsI (wetF G R.length (k + 1)))[j]? = some (jj : Int) := by unfold natsI; rw [List.getElem?_map, hq]; rfl
      obtain ⟨r2, hx2⟩ : ∃ r2, R[jj]? = some r2 := ⟨_, List.getElem?_eq_getElem hjr⟩
      obtain ⟨b', off', e', hb', s0, _⟩ := hR.at_ hx2
      obtain ⟨rfl, rfl⟩ : b = b' ∧ off = off' := by injection e' with e'; injection e' with e1 e2; exact ⟨e1, e2⟩
      have s1 := (hBw.cell (p := ⟨b, off + jj * 9, none⟩) (by show b < _; omega)).trans s0
      have hnew : Hid ((excI pl R S G k).take (j + 1) = (excI pl R S G k).take j ++ [(r.id, r2.id)]) := by
        show _ = _
        rw [List.take_add_one]
        congr 1
        rw [hIe.out, List.getElem?_map, hq]
        simp [rtN_of hx2]
      obtain ⟨b5, off5, rfl, hb5, c5⟩ := hI.at_ hqI
      have hjI : (0 : Int) ≤ (jj : Int) ∧ (jj : Int) < (R.length : Int) := by omega
      have hne2 := hne _ rfl
      clear hq hqI e' s0 hx2
      have hbw2 : b < wr.heap.size := by have := hBw.size; omega
      have hzo2 : wo.heap.size < wr.heap.size := by omega
      go_upto_region 10 with fail
      have hnb : some b ≠ u10.ownBlock := fun e => by have := (hrow.lt b e.symm).1; omega
      have hno : some wo.heap.size ≠ u10.ownBlock := fun e => (hne2 _ e.symm).2 rfl
      have hn5 : some b5 ≠ u10.ownBlock := fun e => (hne2 _ e.symm).1 rfl
      have HR := Lib.hid hrow
      refine Plan.wp_region_grown (u10.ownBlock) (.rd 0 (.rd 1 (.rd 2 (.rd 3 (.rd 4 (.rd 5 (.rd 6 (.rd 7 (.rd 8 (.wr 9 (.wr 10 (.rd 11 .done)))))))))))) (by kernel_rfl) (by kernel_rfl) ?_
      (repeat (first | (refine Plan.tree_read (v := ?_) rfl rfl ?_ ?_; rotate_left; (focus ((intro wS hSw; have hkS := Plan.grown_cells hSw; go_simp); try with_reducible rfl)); simp only [Act.put, List.setIfInBounds_toArray, List.set_cons_zero, List.set_cons_succ]) | (refine Plan.tree_skip rfl rfl ?_; simp only [Act.put, List.setIfInBounds_toArray, List.set_cons_zero, List.set_cons_succ])))
      (refine Plan.tree_write rfl (fun K hK => ?_); try go_simp)
      refine hK.out _ _ (Plan.grown_alloc (Plan.grown_drew _ _) _) ?_
      clear hK K
      try simp only [Act.put, List.setIfInBounds_toArray, List.set_cons_zero, List.set_cons_succ]
      (repeat (first | (refine Plan.tree_read (v := ?_) rfl rfl ?_ ?_; rotate_left; (focus ((intro wS hSw; have hkS := Plan.grown_cells hSw; go_simp); try with_reducible rfl)); simp only [Act.put, List.setIfInBounds_toArray, List.set_cons_zero, List.set_cons_succ]) | (refine Plan.tree_skip rfl rfl ?_; simp only [Act.put, List.setIfInBounds_toArray, List.set_cons_zero, List.set_cons_succ])))
      refine Plan.tree_write rfl (fun K hK => ?_)
      refine step_append_lies _ (by rfl) _ _ _ (by rfl) (w1.heap.size + 1) 51 g0 _ 2 16 Tryd.underlying46 gi gz0 gz1 gz2 rfl (by omega) u10 ((excT pl R S G k).length + j) _ (by rfl) ((HR.out.alloc _).drew) ⟨wr.heap.size, 0, none⟩ 1 1 [.int .i64 r.id, .int .i64 r2.id] (by rfl) (by rfl) (cell_two_at (w := wr.drew) (by simp) _ _ _) (by simp [Value.oneCell']) (by omega) (by unfold maxLen; omega) (by omega) (by simp; omega) (wr.heap.size + 1) (by simp) ?_
      intro gg cap w5 hown5 hgrow5 hat5 hlt5
      refine hK.out _ _ (Plan.grown_go (Plan.grown_alloc (Plan.grown_drew _ _) _) hgrow5) ?_
      clear hK K
      try simp only [Act.put, List.setIfInBounds_toArray, List.set_cons_zero, List.set_cons_succ]
      (repeat (first | (refine Plan.tree_read (v := ?_) rfl rfl ?_ ?_; rotate_left; (focus ((intro wS hSw; have hkS := Plan.grown_cells hSw; go_simp); try with_reducible rfl)); simp only [Act.put, List.setIfInBounds_toArray, List.set_cons_zero, List.set_cons_succ]) | (refine Plan.tree_skip rfl rfl ?_; simp only [Act.put, List.setIfInBounds_toArray, List.set_cons_zero, List.set_cons_succ])))
      refine Plan.tree_done ?_
      go_wp2_with fail
      have hG5 : wr.grownBy w5 u10.ownBlock := Plan.grown_go (Plan.grown_alloc (Plan.grown_drew _ _) _) hgrow5
      have hb5' : Below (w1.heap.size + 1) wr w5 := (Below.refl _ _).grown hG5 (by omega) (fun g hg => (hrow.lt g hg).1)
      have hrow5 : w5.ownsRow (w1.heap.size + 1) 51 2 (.slice (some ⟨gg, 0, none⟩) ((excT pl R S G k).length + j + 1) cap) ((excT pl R S G k).length + (j + 1)) (rowP (excT pl R S G k ++ (excI pl R S G k).take (j + 1))) := by
        rw [hnew.out, ← List.append_assoc, rowP_snoc]; exact hown5
      have hne5 : ∀ a, (some ⟨b5, off5, none⟩ : Option Addr) = some a → ∀ g, (Value.slice (some ⟨gg, 0, none⟩) ((excT pl R S G k).length + j + 1) cap).ownBlock = some g → g ≠ a.block ∧ g ≠ wo.heap.size := by
        intro a ha g hg
        obtain rfl := Option.some.inj ha
        obtain rfl : gg = g := by simpa [Value.ownBlock] using hg
        rcases hat5 with e | e
        · exact hne2 _ e
        · show gg ≠ b5 ∧ gg ≠ wo.heap.size
          omega
      have p5 := (Plan.grown_cells hG5 wo.heap.size 0 hzo2 hno).trans p0
      have hI5 : IntsAt w5 w5.heap.size (some ⟨b5, off5, none⟩) (natsI (wetF G R.length (k + 1))) := (hI.grown (Nat.le_refl _) hG5 (fun a ha => by obtain rfl := Option.some.inj ha; exact hn5)).more hG5.size
      have hX5 := hX.below hb5' (by omega)
      have hD5 := hDy.below hb5' (by omega)
      have hL5 := hL.below (hb5'.mono (by omega))
      have hB5 := hBw.trans (hb5'.mono (by omega))
      have hz5 : wo.heap.size + 1 ≤ w5.heap.size := by have := hG5.size; omega
      clear hrow hX hDy hL hBw hI p0 hown5 hgrow5 hat5 hG5 hb5' hne hne2
      exact ⟨⟨j + 1, by omega, by go_num, hrow5, hne5, p5, hX5, hD5, hL5, hB5, hz5, hI5⟩, by simp [intOf]; omega⟩
end Go.Proofs.YtkbceeobnbbfbaaDoor

/- The walk of the reference's Stop. -/
namespace Go.Proofs.YtkbceeobnbbfbaaDoor
open Go.RowKit CM
attribute [local go_sem] alloc_drewN setCell_drewN shape_drewN

section
variable {pl : Pl} {R : List Rt} {S : List Int} {G : List (Int × Int)}
theorem stopP_eq (hS : ∀ x ∈ S, In64 x) (i q : Nat) : (decide (leftN pl R S G R.length q ≤ 0) && dryF pl R G i q R.length) = stopP pl R S G i q := by
  unfold stopP leftN lefW
  rw [(leftR_eq (fun p => supF_in hS p) R.length q).1]
  congr 1
  rw [Bool.eq_iff_iff, dryF_iff, decide_eq_true_eq, lastW_le]
  constructor
  · exact fun h j j1 j2 j3 _ => h j j1 j2 j3
  · intro h j j1 j2 j3
    by_cases g : j < G.length
    · exact h j j1 j2 j3 g
    · rw [got_out g]; exact Int.le_refl _
theorem dryF_start (i q : Nat) : dryF pl R G i q (i + 1) = true := (dryF_iff _).2 (fun j h1 h2 _ => by omega)
theorem dryF_wet {i q j : Nat} (h : i < j) (hq : q ∈ rcR pl R j) (hg : 0 < gotG G j) : dryF pl R G i q (j + 1) = false := by
  show (_ && _) = false
  rw [decide_eq_true h, decide_eq_true hq, decide_eq_true hg]; simp
theorem dryF_dry {i q j : Nat} (h : ¬ (q ∈ rcR pl R j ∧ 0 < gotG G j)) : dryF pl R G i q (j + 1) = dryF pl R G i q j := by
  show (_ && _) = _
  by_cases h1 : q ∈ rcR pl R j
  · have h2 : ¬ 0 < gotG G j := fun g => h ⟨h1, g⟩
    rw [decide_eq_false h2]; simp
  · rw [decide_eq_false h1]; simp
end
end Go.Proofs.YtkbceeobnbbfbaaDoor

/- Walks of the reference's Is and of lawful. -/
namespace Go.Proofs.YtkbceeobnbbfbaaDoor
open Go.RowKit CM
attribute [local go_sem] alloc_drewN setCell_drewN shape_drewN

def lawB (pl : Pl) (r : Rt) (x : Int × Int) : Bool := decide (x.1 = r.id) && (decide (0 ≤ x.2) && (decide (x.2 ≤ 1125899906842624) && (decide (x.2 ≤ max 0 r.rate) && (decide (x.2 = 0) || isPl pl r.place))))
theorem lawB_eq (pl : Pl) (R : List Rt) (G : List (Int × Int)) (i : Nat) : lawfulF pl R G i = lawB pl (rtN R i) (G.getD i (0, 0)) := rfl
set_option maxHeartbeats 2000000 in
theorem lawful_any (X : Bas) (pl : Pl) (r : Rt) (x : Int × Int) (w : World) (hl : pl.length ≤ 1000000) :
    Calls Tryd.prog 25 #[.agg #[.string X.nm, .slice X.a1 X.l1 X.c1, .int .i64 X.cl, .slice X.P pl.length X.cP, .slice X.a4 X.l4 X.c4, .slice X.a5 X.l5 X.c5, .slice X.a6 X.l6 X.c6, .slice X.a7 X.l7 X.c7, .slice X.a8 X.l8 X.c8, .slice X.a9 X.l9 X.c9, .int .i64 X.er], .agg #[.int .i64 r.id, .int .i64 r.owner, .int .i64 r.date, .int .i64 r.place, .int .i64 r.rate, .int .i64 r.from1, .int .i64 r.until1, .int .i64 r.back, .int .i64 r.backTo], .agg #[.int .i64 x.1, .int .i64 x.2]] w (BoolIs (lawB pl r x) w) := by
  obtain ⟨x1, x2⟩ := x
  dsimp only
  have K1 := Lib.hid (fun wx => cisPlace_any X pl r.place wx (by omega))
  by_cases h1 : x1 = r.id
  case neg =>
    have hF : Hid (lawB pl r (x1, x2) = false) := Lib.hid (by unfold lawB; rw [decide_eq_false h1]; rfl)
    have d1 : (x1 != r.id) = true := by simpa using h1
    clear K1
    go_enter Tryd.func25, Tryd.ntmps25
    go_wp2_with fail
    go_ret
    exact ⟨ret_bool hF.out.symm, (((Below.refl _ _).alloc (Nat.le_refl _) _).alloc (by simp) _).alloc (by simp; try omega) _⟩
  have d1 : (x1 != r.id) = false := by simpa using h1
  by_cases h2 : 0 ≤ x2
  case neg =>
    have hF : Hid (lawB pl r (x1, x2) = false) := Lib.hid (by unfold lawB; rw [decide_eq_false h2]; simp)
    have d2 : decide (x2 < 0) = true := decide_eq_true (by omega)
    clear K1 h1
    go_enter Tryd.func25, Tryd.ntmps25
    go_wp2_with fail
    go_ret
    exact ⟨ret_bool hF.out.symm, (((Below.refl _ _).alloc (Nat.le_refl _) _).alloc (by simp) _).alloc (by simp; try omega) _⟩
  have d2 : decide (x2 < 0) = false := decide_eq_false (by omega)
  by_cases h3 : x2 ≤ 1125899906842624
  case neg =>
    have hF : Hid (lawB pl r (x1, x2) = false) := Lib.hid (by unfold lawB; rw [decide_eq_false h3]; simp)
    have d3 : decide ((1125899906842624 : Int) < x2) = true := decide_eq_true (by omega)
    clear K1 h1
    go_enter Tryd.func25, Tryd.ntmps25
    go_wp2_with fail
    go_ret
    exact ⟨ret_bool hF.out.symm, (((Below.refl _ _).alloc (Nat.le_refl _) _).alloc (by simp) _).alloc (by simp; try omega) _⟩
  have d3 : decide ((1125899906842624 : Int) < x2) = false := decide_eq_false (by omega)
  obtain ⟨m, hm⟩ : ∃ m, m = max 0 r.rate := ⟨_, rfl⟩
  have e2 : max 0 r.rate = m := hm.symm
  have e3 : (if r.rate < 0 then 0 else r.rate) = m := by rw [hm]; split <;> omega
  have e4 : (if (0 : Int) < r.rate then r.rate else 0) = m := by rw [hm]; split <;> omega
  by_cases h4 : x2 ≤ m
  case neg =>
    have hF : Hid (lawB pl r (x1, x2) = false) := Lib.hid (by unfold lawB; rw [← hm, decide_eq_false h4]; simp)
    have d4 : decide (m < x2) = true := decide_eq_true (by omega)
    clear K1 h1 hm
    go_enter Tryd.func25, Tryd.ntmps25
    go_wp2_with fail
    go_ret
    exact ⟨ret_bool hF.out.symm, (((Below.refl _ _).alloc (Nat.le_refl _) _).alloc (by simp) _).alloc (by simp; try omega) _⟩
  have d4 : decide (m < x2) = false := decide_eq_false (by omega)
  have hF : lawB pl r (x1, x2) = (decide (x2 = 0) || isPl pl r.place) := by
    unfold lawB
    rw [← hm, decide_eq_true h1, decide_eq_true h2, decide_eq_true h3, decide_eq_true h4]; rfl
  clear h1 hm
  by_cases h5 : x2 = 0
  · have hF : Hid (lawB pl r (x1, x2) = true) := Lib.hid (by rw [hF, decide_eq_true h5]; rfl)
    have d5 : (x2 == 0) = true := by simpa using h5
    have h5 := Lib.hid h5
    clear K1
    go_enter Tryd.func25, Tryd.ntmps25
    go_wp2_with fail
    go_ret
    exact ⟨ret_bool hF.out.symm, (((Below.refl _ _).alloc (Nat.le_refl _) _).alloc (by simp) _).alloc (by simp; try omega) _⟩
  · have hF : Hid (lawB pl r (x1, x2) = isPl pl r.place) := Lib.hid (by rw [hF, decide_eq_false h5]; rfl)
    have d5 : (x2 == 0) = false := by simpa using h5
    go_enter Tryd.func25, Tryd.ntmps25
    go_wp2_with (first | (go_at_call 30; ((with_reducible refine (K1.out _).mono ?_); rintro e1 w1 ⟨rfl, hb1⟩)) | fail)
    go_ret
    exact ⟨ret_bool hF.out.symm, ((((Below.refl _ _).alloc (Nat.le_refl _) _).alloc (by simp) _).alloc (by simp; try omega) _).trans (hb1.mono (by simp; omega))⟩
end Go.Proofs.YtkbceeobnbbfbaaDoor

/- The walk of the reference's Excuses. -/
namespace Go.Proofs.YtkbceeobnbbfbaaDoor
open Go.RowKit CM
attribute [local go_sem] alloc_drewN setCell_drewN shape_drewN

theorem wetB_got (G : List (Int × Int)) (j : Nat) : wetB G j = decide (0 < gotG G j) := by
  unfold wetB
  by_cases h : j < G.length
  · rw [decide_eq_true h]; rfl
  · rw [decide_eq_false h, got_out h]; rfl
theorem stopI_nat {pl : Pl} {R : List Rt} {S : List Int} {G : List (Int × Int)} {k : Nat} (h : k < R.length) : stopI pl R S G (k : Int) = stopN pl R S G k := by
  unfold stopI; rw [if_pos ⟨by omega, by omega⟩, Int.toNat_natCast]
/-- The excuses of the i-th right with the rights below j. -/
def excP (R : List Rt) (G : List (Int × Int)) (id : Int) (i j : Nat) : List (Int × Int) := (wetT G (i + 1) j).map fun j => (id, (rtN R j).id)
theorem excP_start (R : List Rt) (G : List (Int × Int)) (id : Int) (i : Nat) : excP R G id i (i + 1) = [] := by unfold excP; rw [wetT_start]; rfl
theorem excP_yes {R : List Rt} {G : List (Int × Int)} {id : Int} {i j : Nat} (h : i + 1 ≤ j) (hg : 0 < gotG G j) : excP R G id i (j + 1) = excP R G id i j ++ [(id, (rtN R j).id)] := by
  unfold excP; rw [wetT_succ, if_pos ⟨h, by rw [wetB_got]; exact decide_eq_true hg⟩, List.map_append]; rfl
theorem excP_no {R : List Rt} {G : List (Int × Int)} {id : Int} {i j : Nat} (hg : ¬ 0 < gotG G j) : excP R G id i (j + 1) = excP R G id i j := by
  unfold excP; rw [wetT_succ, if_neg (fun h => by rw [wetB_got] at h; exact hg (of_decide_eq_true h.2))]
theorem excP_len (R : List Rt) (G : List (Int × Int)) (id : Int) (i j : Nat) : (excP R G id i j).length ≤ j := by unfold excP; rw [List.length_map]; exact wetT_len G (i + 1) j
end Go.Proofs.YtkbceeobnbbfbaaDoor

/- A map that the call has made, as a list of pairs in the order in which its keys came: what a look-up answers, and what a store leaves; keys of an integer kind, and structs of integers. -/
namespace Go.Proofs.YtkbceeobnbbfbaaDoor
open Go Go.RowKit Go.ChangeMaps

section
variable {α β : Type} [DecidableEq α]
/-- Where a key stands, and what is there. -/
def findE (x : α) : List α → List MapEntry → Nat → Option (Nat × Value)
  | k :: ks, e :: es, i => if x = k then some (i, e.val) else findE x ks es (i + 1)
  | _, _, _ => none
/-- What is needed of the keys: they read as f says. -/
structure KeyX (P : Program) (k : TypeId) (f : α → Value) : Prop where
  check : ∀ em x w, (Instr.checkKey em 10000 k (f x)).run P w = .ok () w
  find : ∀ x w (es : List MapEntry) (ks : List α), es.map (·.key) = ks.map f → (Instr.findKey k (f x) es).run P w = .ok (findE x ks es 0) w
  stays : ∀ x w, (Instr.keyThatStays (f x) (f x)).run P w = .ok (f x) w
theorem int_keyX {P : Program} {k : TypeId} (hk : P.underlying k = some (.int .i64)) : KeyX P k (fun x : Int => Value.int .i64 x) where
  check em x w := by
    have h : ∀ n, (Instr.checkKey em (n + 1) k (.int .i64 x)).run P w = .ok () w := fun n => by simp [Instr.checkKey, run_underlying hk]
    exact h 9999
  find x w es ks h := by
    have key : ∀ (es : List MapEntry) (ks : List Int) (i : Nat), es.map (·.key) = ks.map (fun x : Int => Value.int .i64 x) → Instr.findNow (.int .i64) (.int .i64 x) es i = some (findE x ks es i) := by
      intro es
      induction es with
      | nil => intro ks i h; cases ks <;> first | rfl | simp at h
      | cons e es ih =>
        intro ks i h
        cases ks with
        | nil => simp at h
        | cons a ks =>
          simp only [List.map_cons, List.cons.injEq] at h
          have ih := ih ks (i + 1) h.2
          unfold Instr.findNow findE
          rw [h.1]
          by_cases g : x = a
          · subst g; simp [Instr.sameNow]
          · have g1 : (x == a) = false := by simpa using g
            simp [Instr.sameNow, g1, g, ih]
    have := key es ks 0 h
    simp [Instr.findKey, run_underlying hk, this]
  stays x w := by simp [Instr.keyThatStays, Instr.sameBits]
theorem struct_keyX {P : Program} {k : TypeId} {fs : Array Field} {f : α → Value} (hk : P.underlying k = some (.struct fs)) (hc : ∀ em x w, (Instr.checkKey em 10000 k (f x)).run P w = .ok () w) (he : ∀ x y w, (Op.equal k (f x) (f y)).run P w = .ok (decide (x = y)) w)
    (hb : ∀ x, Instr.sameBits 10000 (f x) (f x) = true) : KeyX P k f where
  check := hc
  find x w es ks h := by
    have key : ∀ (es : List MapEntry) (ks : List α) (i : Nat), es.map (·.key) = ks.map f → (Instr.findAsking k (f x) es i).run P w = .ok (findE x ks es i) w := by
      intro es
      induction es with
      | nil => intro ks i h; cases ks <;> first | rfl | simp at h
      | cons e es ih =>
        intro ks i h
        cases ks with
        | nil => simp at h
        | cons a ks =>
          simp only [List.map_cons, List.cons.injEq] at h
          have ih := ih ks (i + 1) h.2
          unfold Instr.findAsking findE
          rw [h.1, Sem.run_bind, he, Result.andThen_ok]
          by_cases g : x = a
          · simp [g]
          · simp [g, ih]
    have h2 := key es ks 0 h
    cases es with
    | nil =>
      have : findE x ks [] 0 = none := by cases ks <;> rfl
      rw [this]
      simp [Instr.findKey, run_underlying hk, Instr.findNow]
    | cons e es =>
      have h3 : Instr.findNow (.struct fs) (f x) (e :: es) 0 = none := by unfold Instr.findNow; simp [Instr.sameNow]
      simp only [Instr.findKey, Sem.run_bind, run_underlying hk, Result.andThen_ok, h3]
      exact h2
  stays x w := by simp [Instr.keyThatStays, hb]

/-- Block b is a map that reads as the pairs m. -/
def MapX (w : World) (b : Nat) (f : α → Value) (g : β → Value) (m : List (α × β)) : Prop :=
  ∃ es clock, w.heap[b]? = some (.map es clock) ∧ es.toList.map (fun e => (e.key, e.val)) = m.map (fun p => (f p.1, g p.2))
def getX (m : List (α × β)) (x : α) : Option β := (m.find? (fun p => decide (x = p.1))).map (·.2)
def putX : List (α × β) → α → β → List (α × β)
  | [], x, y => [(x, y)]
  | p :: m, x, y => if x = p.1 then (x, y) :: m else p :: putX m x y
section
variable {w w1 : World} {b : Nat} {f : α → Value} {g : β → Value} {m : List (α × β)}
omit [DecidableEq α] in
theorem MapX.made (w : World) (f : α → Value) (g : β → Value) : MapX (w.alloc (.map #[] 0)) w.heap.size f g [] := ⟨#[], 0, heap_alloc_new w _, rfl⟩
omit [DecidableEq α] in
theorem MapX.keep (h : MapX w b f g m) (e : w1.heap[b]? = w.heap[b]?) : MapX w1 b f g m := by
  obtain ⟨es, c, h1, h2⟩ := h
  exact ⟨es, c, e.trans h1, h2⟩
omit [DecidableEq α] in
theorem MapX.below {B : Nat} (h : MapX w b f g m) (hb : Below B w w1) (hlt : b < B) : MapX w1 b f g m := h.keep (hb.block b hlt)
omit [DecidableEq α] in
theorem MapX.far (h : MapX w b f g m) {p : Addr} (hp : b ≠ p.block) (u : Value) : MapX (w.setCell p u) b f g m := h.keep (Below.heap_setCell w p u b hp)
omit [DecidableEq α] in
theorem MapX.lt (h : MapX w b f g m) : b < w.heap.size := by
  obtain ⟨es, c, h1, _⟩ := h
  exact (Array.getElem?_eq_some_iff.1 h1).1
theorem findE_get (x : α) : ∀ (m : List (α × β)) (es : List MapEntry) (i : Nat), es.map (fun e => (e.key, e.val)) = m.map (fun p => (f p.1, g p.2)) →
    (findE x (m.map (·.1)) es i).map (·.2) = (getX m x).map g
  | [], [], _, _ => rfl
  | [], _ :: _, _, h => by simp at h
  | _ :: _, [], _, h => by simp at h
  | p :: m, e :: es, i, h => by
    simp only [List.map_cons, List.cons.injEq, Prod.mk.injEq] at h
    have ih := findE_get x m es (i + 1) h.2
    simp only [List.map_cons, findE, getX, List.find?_cons]
    by_cases q : x = p.1
    · simp [q, h.1.2]
    · simp only [q, if_false, decide_false]
      exact ih
omit [DecidableEq α] in
theorem keys_of {m : List (α × β)} {es : List MapEntry} (h : es.map (fun e => (e.key, e.val)) = m.map (fun p => (f p.1, g p.2))) : es.map (·.key) = (m.map (·.1)).map f := by
  have := congrArg (List.map Prod.fst) h
  simpa [List.map_map, Function.comp_def] using this
theorem MapX.lookup {P : Program} {t k e : TypeId} (h : MapX w b f g m) (K : KeyX P k f) (ht : P.underlying t = some (.map k e)) {z : Value} (hz : (zeroValue e).run P w = .ok z w) (x : α) :
    (Instr.lookup t (.map (some b)) (f x) false).run P w = .ok (((getX m x).map g).getD z) w := by
  obtain ⟨es, c, h1, h2⟩ := h
  have hf := K.find x w es.toList (m.map (·.1)) (keys_of h2)
  have hg := findE_get (f := f) (g := g) x m es.toList 0 h2
  cases hq : findE x (m.map (·.1)) es.toList 0 with
  | none =>
    rw [hq] at hf hg
    have hg : (getX m x).map g = none := hg.symm
    simp [Instr.lookup, run_underlying ht, MapKept.run_getObj_map h1, K.check, hf, hz, hg, Result.andThen]
  | some q =>
    rw [hq] at hf hg
    have hg : (getX m x).map g = some q.2 := hg.symm
    simp [Instr.lookup, run_underlying ht, MapKept.run_getObj_map h1, K.check, hf, hg, Result.andThen]
theorem MapX.lookup_ok {P : Program} {t k e : TypeId} (h : MapX w b f g m) (K : KeyX P k f) (ht : P.underlying t = some (.map k e)) {z : Value} (hz : (zeroValue e).run P w = .ok z w) (x : α) :
    (Instr.lookup t (.map (some b)) (f x) true).run P w = .ok (.tuple #[((getX m x).map g).getD z, .bool (getX m x).isSome]) w := by
  obtain ⟨es, c, h1, h2⟩ := h
  have hf := K.find x w es.toList (m.map (·.1)) (keys_of h2)
  have hg := findE_get (f := f) (g := g) x m es.toList 0 h2
  cases hq : findE x (m.map (·.1)) es.toList 0 with
  | none =>
    rw [hq] at hf hg
    have hg : (getX m x).map g = none := hg.symm
    have hi : (getX m x).isSome = false := by cases hx : getX m x <;> simp [hx] at hg ⊢
    simp [Instr.lookup, run_underlying ht, MapKept.run_getObj_map h1, K.check, hf, hz, hg, hi, Result.andThen]
  | some q =>
    rw [hq] at hf hg
    have hg : (getX m x).map g = some q.2 := hg.symm
    have hi : (getX m x).isSome = true := by cases hx : getX m x <;> simp [hx] at hg ⊢
    simp [Instr.lookup, run_underlying ht, MapKept.run_getObj_map h1, K.check, hf, hg, hi, Result.andThen]
theorem findE_put (x : α) (y : β) : ∀ (m : List (α × β)) (es : List MapEntry) (i : Nat), es.map (fun e => (e.key, e.val)) = m.map (fun p => (f p.1, g p.2)) →
    (findE x (m.map (·.1)) es i = none ∧ putX m x y = m ++ [(x, y)]) ∨
    ∃ (j : Nat) (e0 : MapEntry), findE x (m.map (·.1)) es i = some (i + j, e0.val) ∧ es[j]? = some e0 ∧ e0.key = f x ∧ ∀ e1 : MapEntry, e1.key = f x → e1.val = g y → (es.set j e1).map (fun e => (e.key, e.val)) = (putX m x y).map (fun p => (f p.1, g p.2))
  | [], [], _, _ => .inl ⟨rfl, rfl⟩
  | [], _ :: _, _, h => by simp at h
  | _ :: _, [], _, h => by simp at h
  | p :: m, e :: es, i, h => by
    simp only [List.map_cons, List.cons.injEq, Prod.mk.injEq] at h
    have ih := findE_put x y m es (i + 1) h.2
    simp only [List.map_cons, findE, putX]
    by_cases q : x = p.1
    · rw [if_pos q, if_pos q]
      refine .inr ⟨0, e, rfl, rfl, by rw [h.1.1, q], fun e1 h1 h2 => ?_⟩
      simp only [List.set_cons_zero, List.map_cons, h1, h2, h.2]
    · rw [if_neg q, if_neg q]
      rcases ih with ⟨h1, h2⟩ | ⟨j, e0, h1, h2, h3, h4⟩
      · exact .inl ⟨h1, by rw [h2]; rfl⟩
      · refine .inr ⟨j + 1, e0, by rw [h1]; congr 2; omega, by simpa using h2, h3, fun e1 g1 g2 => ?_⟩
        simp only [List.set_cons_succ, List.map_cons, h4 e1 g1 g2, h.1.1, h.1.2]
theorem MapX.update {P : Program} {t k e : TypeId} (h : MapX w b f g m) (K : KeyX P k f) (ht : P.underlying t = some (.map k e)) (x : α) (y : β) :
    ∃ w', (Instr.mapUpdate t (.map (some b)) (f x) (g y)).run P w = .ok () w' ∧ MapX w' b f g (putX m x y) ∧ w.grownBy w' (some b) := by
  obtain ⟨es, c, h1, h2⟩ := h
  have hf := K.find x w es.toList (m.map (·.1)) (keys_of h2)
  rcases findE_put x y m es.toList 0 h2 with ⟨q1, q2⟩ | ⟨j, e0, q1, q2, q3, q4⟩
  · rw [q1] at hf
    refine ⟨setBlock w b (.map (es.push ⟨f x, g y, c⟩) (c + 1)), ?_, ⟨_, _, heap_setBlock_same h1 _, ?_⟩, ⟨rfl, rfl, rfl, by simp [setBlock], fun i _ hi => heap_setBlock_other h1 _ (fun e => hi (by rw [e]))⟩⟩
    · simp [Instr.mapUpdate, run_underlying ht, MapKept.run_getObj_map h1, K.check, hf, MapKept.run_setObj_map _ h1, Result.andThen, setBlock]
    · rw [q2, Array.toList_push, List.map_append, List.map_append, h2]; rfl
  · rw [q1] at hf
    have hj : es[j]? = some e0 := by simpa using q2
    have hlist : (es.modify j (fun e' => { e' with key := f x, val := g y })).toList = es.toList.set j { e0 with key := f x, val := g y } := by rw [Array.toList_modify, modify_eq_set _ _ _ _ q2]
    refine ⟨setBlock w b (.map (es.modify j fun e' => { e' with key := f x, val := g y }) c), ?_, ⟨_, _, heap_setBlock_same h1 _, ?_⟩, ⟨rfl, rfl, rfl, by simp [setBlock], fun i _ hi => heap_setBlock_other h1 _ (fun e => hi (by rw [e]))⟩⟩
    · simp [Instr.mapUpdate, run_underlying ht, MapKept.run_getObj_map h1, K.check, hf, hj, q3, K.stays, MapKept.run_setObj_map _ h1, Result.andThen, setBlock]
    · rw [hlist]; exact q4 _ rfl rfl
end
/-- A store into the map, at the operation. -/
theorem wpList_putX {P : Program} (w : World) {ops : Array Oper} {rest : List Oper} {o : Oper} {a : Act} {Q : Exit → Act → World → Prop}
    (hg : o.guard = none) (mo xo vo : Operand) (t : TypeId) (hop : o.op = Op.mapUpdate t mo xo vo) (k e : TypeId) {f : α → Value} {g : β → Value} (K : KeyX P k f) (ht : P.underlying t = some (.map k e)) (b : Nat) (m : List (α × β))
    (hm : a.eval mo = .map (some b)) (hown : MapX w b f g m) (x : α) (y : β) (hx : a.eval xo = f x) (hv : a.eval vo = g y)
    (hK : ∀ w', MapX w' b f g (putX m x y) → w.grownBy w' (some b) → wpList P ops Q rest (a.put o.dst undef) w') : wpList P ops Q (o :: rest) a w := by
  refine wpList_plain hg fun K' hK' => ?_
  obtain ⟨w', hrun, r1, r2⟩ := hown.update K ht x y
  unfold Oper.wp
  simp [execOp, hop, hm, hx, hv, hrun, Result.andThen]
  exact hK' _ _ (hK w' r1 r2)
theorem getX_nil (x : α) : getX ([] : List (α × β)) x = none := rfl
theorem getX_put (x z : α) (y : β) : ∀ m : List (α × β), getX (putX m x y) z = if z = x then some y else getX m z
  | [] => by
    unfold putX getX
    by_cases h : z = x <;> simp [h]
  | p :: m => by
    have ih := getX_put x z y m
    unfold putX
    by_cases h : x = p.1
    · rw [if_pos h]
      unfold getX
      simp only [List.find?_cons]
      by_cases g : z = x
      · simp [g]
      · have g2 : ¬ z = p.1 := fun e => g (by rw [e, h])
        simp [g, g2]
    · rw [if_neg h]
      unfold getX at ih ⊢
      simp only [List.find?_cons]
      by_cases g : z = p.1
      · have g2 : ¬ z = x := fun e => h (by rw [← e, g])
        simp [g, g2]
        intro e; exact absurd e.symm h
      · simp only [g, decide_false]
        exact ih
end
end Go.Proofs.YtkbceeobnbbfbaaDoor

/- Plain facts on Check's answer. -/
namespace Go.Proofs.YtkbceeobnbbfbaaDoor
open Go.RowKit CM
def chkN (pl : Pl) (R : List Rt) (S : List Int) (G x : List (Int × Int)) : Bool := checkF pl R (supF S) S.length G x
section
variable {pl : Pl} {R : List Rt} {S : List Int} {G x : List (Int × Int)}
theorem chk_iff : chkN pl R S G x = true ↔ G.length = R.length ∧ (∀ i, i < R.length → lawfulF pl R G i = true) ∧ (∀ q, q < pl.length → 0 ≤ lefW pl R S G R.length q) ∧
    (∀ i, i < R.length → shortF pl R G i = true → 0 ≤ stopN pl R S G i ∧ ∀ j ∈ wetF G R.length (i + 1), ((rtN R i).id, (rtN R j).id) ∈ x) := by
  unfold chkN checkF
  simp only [Bool.and_eq_true, decide_eq_true_eq, List.all_eq_true, List.mem_range, Bool.or_eq_true, Bool.not_eq_true']
  constructor
  · rintro ⟨h1, h2, h3, h4⟩
    refine ⟨h1, h2, h3, fun i hi hs => ?_⟩
    rcases h4 i hi with h | h
    · rw [hs] at h; cases h
    · exact h
  · rintro ⟨h1, h2, h3, h4⟩
    refine ⟨h1, h2, h3, fun i hi => ?_⟩
    cases hs : shortF pl R G i
    · exact .inl rfl
    · exact .inr (h4 i hi hs)
theorem chk_no (h : ¬ (G.length = R.length ∧ (∀ i, i < R.length → lawfulF pl R G i = true) ∧ (∀ q, q < pl.length → 0 ≤ lefW pl R S G R.length q) ∧
    (∀ i, i < R.length → shortF pl R G i = true → 0 ≤ stopN pl R S G i ∧ ∀ j ∈ wetF G R.length (i + 1), ((rtN R i).id, (rtN R j).id) ∈ x))) : chkN pl R S G x = false := by
  cases hc : chkN pl R S G x
  · rfl
  · exact absurd (chk_iff.1 hc) h
theorem chk_len (h : G.length ≠ R.length) : chkN pl R S G x = false := chk_no (fun e => h e.1)
theorem chk_law {i : Nat} (hi : i < R.length) (h : lawfulF pl R G i = false) : chkN pl R S G x = false := chk_no (fun e => by have := e.2.1 i hi; rw [h] at this; cases this)
theorem chk_left {q : Nat} (hq : q < pl.length) (h : lefW pl R S G R.length q < 0) : chkN pl R S G x = false := chk_no (fun e => by have := e.2.2.1 q hq; omega)
theorem chk_stop {i : Nat} (hi : i < R.length) (hs : shortF pl R G i = true) (h : ¬ 0 ≤ stopN pl R S G i) : chkN pl R S G x = false := chk_no (fun e => h (e.2.2.2 i hi hs).1)
theorem chk_exc {i j : Nat} (hi : i < R.length) (hs : shortF pl R G i = true) (hj : j ∈ wetF G R.length (i + 1)) (h : ((rtN R i).id, (rtN R j).id) ∉ x) : chkN pl R S G x = false := chk_no (fun e => h ((e.2.2.2 i hi hs).2 j hj))
end
/-- The excuses that were given, as a map. -/
theorem put_taken {l : List (Int × Int)} {k : Nat} {x : Int × Int} {m : List ((Int × Int) × Bool)} (hm : ∀ z, getX m z = if z ∈ l.take k then some true else none) (hx : l[k]? = some x) : ∀ z, getX (putX m x true) z = if z ∈ l.take (k + 1) then some true else none := by
  intro z
  rw [getX_put, hm, List.take_add_one, hx]
  by_cases h1 : z = x
  · rw [if_pos h1, if_pos (by simp [h1])]
  · rw [if_neg h1]
    by_cases h2 : z ∈ l.take k
    · rw [if_pos h2, if_pos (by simp [h2])]
    · rw [if_neg h2, if_neg (by simp [h1, h2])]
end Go.Proofs.YtkbceeobnbbfbaaDoor

/- Walks of the functions that compare lists. -/
namespace Go.Proofs.YtkbceeobnbbfbaaDoor
open Go.RowKit CM
attribute [local go_sem] alloc_drewN setCell_drewN shape_drewN

def SameL {α : Type} [DecidableEq α] (A B : List α) : Bool := decide (A = B)
theorem sameL_len {α : Type} [DecidableEq α] {A B : List α} (h : A.length ≠ B.length) : SameL A B = false := decide_eq_false (fun e => h (by rw [e]))
theorem sameL_no {α : Type} [DecidableEq α] {A B : List α} {k : Nat} {x y : α} (h1 : A[k]? = some x) (h2 : B[k]? = some y) (h : x ≠ y) : SameL A B = false :=
  decide_eq_false (fun e => h (by rw [e, h2] at h1; exact (Option.some.inj h1).symm))
theorem sameL_yes {α : Type} [DecidableEq α] {A B : List α} (hl : A.length = B.length) (h : A.take A.length = B.take A.length) : SameL A B = true := by
  rw [List.take_length, hl, List.take_length] at h; exact decide_eq_true h
theorem take_both {α : Type} {A B : List α} {k : Nat} {x : α} (h : A.take k = B.take k) (h1 : A[k]? = some x) (h2 : B[k]? = some x) : A.take (k + 1) = B.take (k + 1) := by
  rw [List.take_add_one, List.take_add_one, h, h1, h2]
def SameIs {α : Type} [DecidableEq α] (A B : List α) (w : World) (e : Ending) (w' : World) : Prop := e = .returned (.bool (SameL A B)) ∧ ∃ n, w' = w.drewN n
set_option maxHeartbeats 1000000 in
theorem sameInts_any (A E : List Int) (C D : Option Addr) (cc dc : Nat) (w : World) {B : Nat} (hC : IntsAt w B C A) (hD : IntsAt w B D E) (hl : A.length ≤ 9223372036854775807) (hl2 : E.length ≤ 9223372036854775807) :
    Calls Tryd.prog 12 #[.slice C A.length cc, .slice D E.length dc] w (SameIs A E w) := by
  by_cases hle : A.length = E.length
  case neg =>
    have Hn := Lib.hid (sameL_len hle)
    have hl1 : (A.length != E.length) = true := by simp; exact hle
    have hl2 : ((A.length : Int) != (E.length : Int)) = true := by simp; omega
    go_enter Tryd.func12, Tryd.ntmps12
    go_wp2_with fail
    go_ret
    exact ⟨ret_bool Hn.out.symm, 0, rfl⟩
  have Hl := Lib.hid hle
  rw [← hle]
  clear hle hl2
  go_enter Tryd.func12, Tryd.ntmps12
  go_wp2_with fail
  go_loopw [5] (fun i wr => ∃ k m : Nat, k ≤ A.length ∧ i = .int .i64 k ∧ Hid (A.take k = E.take k) ∧ wr = w.drewN m) (fun i _ => A.length - (intOf i).toNat)
  case atStart => exact ⟨0, 0, Nat.zero_le _, rfl, rfl, rfl⟩
  case round =>
    obtain ⟨k, m, hk, rfl, hm, hwr⟩ := hrel
    subst hwr
    by_cases hlt : k < A.length
    · obtain ⟨x, hx⟩ : ∃ x, A[k]? = some x := ⟨_, List.getElem?_eq_getElem hlt⟩
      obtain ⟨y, hy⟩ : ∃ y, E[k]? = some y := ⟨_, List.getElem?_eq_getElem (by have := Hl.out; omega)⟩
      obtain ⟨b, off, rfl, hb, c0⟩ := hC.at_ hx
      obtain ⟨b2, off2, rfl, hb2, d0⟩ := hD.at_ hy
      have hk0 : 0 ≤ (k : Int) ∧ (k : Int) < (A.length : Int) := by omega
      by_cases g : x = y
      · have hN : Hid (A.take (k + 1) = E.take (k + 1)) := take_both hm.out hx (g ▸ hy)
        have g1 : (x != y) = false := by simpa using g
        clear hx hy g
        go_upto_region 6 with fail
        go_quiet (fail)
        go_wp2_with fail
        go_roundw
        case rel => exact ⟨k + 1, _, by omega, by go_num, hN, rfl⟩
        case measure => simp [intOf]; omega
      · have hN : Hid (SameL A E = false) := sameL_no hx hy g
        have g1 : (x != y) = true := by simpa using g
        clear hx hy
        go_upto_region 6 with fail
        go_quiet (fail)
        go_wp2_with fail
        go_ret
        exact ⟨ret_bool hN.out.symm, _, World.drewN_drewN _ _ _⟩
    · have hke : k = A.length := by omega
      subst hke
      have hN : Hid (SameL A E = true) := sameL_yes Hl.out hm.out
      go_wp2_with fail
      go_ret
      exact ⟨ret_bool hN.out.symm, _, rfl⟩
set_option maxHeartbeats 1000000 in
theorem same38_any (A E : List (Int × Int)) (C D : Option Addr) (cc dc : Nat) (w : World) {B : Nat} (hC : PairsAt w B C A) (hD : PairsAt w B D E) (hl : A.length ≤ 9223372036854775807) (hl2 : E.length ≤ 9223372036854775807) :
    Calls Tryd.prog 15 #[.slice C A.length cc, .slice D E.length dc] w (SameIs A E w) := by
  by_cases hle : A.length = E.length
  case neg =>
    have Hn := Lib.hid (sameL_len hle)
    have hl1 : (A.length != E.length) = true := by simp; exact hle
    have hl2 : ((A.length : Int) != (E.length : Int)) = true := by simp; omega
    go_enter Tryd.func15, Tryd.ntmps15
    go_wp2_with fail
    go_ret
    exact ⟨ret_bool Hn.out.symm, 0, rfl⟩
  have Hl := Lib.hid hle
  rw [← hle]
  clear hle hl2
  go_enter Tryd.func15, Tryd.ntmps15
  go_wp2_with fail
  go_loopw [5] (fun i wr => ∃ k m : Nat, k ≤ A.length ∧ i = .int .i64 k ∧ Hid (A.take k = E.take k) ∧ wr = w.drewN m) (fun i _ => A.length - (intOf i).toNat)
  case atStart => exact ⟨0, 0, Nat.zero_le _, rfl, rfl, rfl⟩
  case round =>
    obtain ⟨k, m, hk, rfl, hm, hwr⟩ := hrel
    subst hwr
    by_cases hlt : k < A.length
    · obtain ⟨x, hx⟩ : ∃ x, A[k]? = some x := ⟨_, List.getElem?_eq_getElem hlt⟩
      obtain ⟨y, hy⟩ : ∃ y, E[k]? = some y := ⟨_, List.getElem?_eq_getElem (by have := Hl.out; omega)⟩
      obtain ⟨b, off, rfl, hb, c0, c1⟩ := hC.at_ hx
      obtain ⟨b2, off2, rfl, hb2, d0, d1⟩ := hD.at_ hy
      have hk0 : 0 ≤ (k : Int) ∧ (k : Int) < (A.length : Int) := by omega
      by_cases g : x = y
      · have hN : Hid (A.take (k + 1) = E.take (k + 1)) := take_both hm.out hx (g ▸ hy)
        have g1 : (x.1 == y.1) = true := by simp [g]
        have g2 : (x.2 == y.2) = true := by simp [g]
        clear hx hy g
        go_upto_region 6 with fail
        go_quiet (fail)
        go_wp2_with fail
        go_roundw
        case rel => exact ⟨k + 1, _, by omega, by go_num, hN, rfl⟩
        case measure => simp [intOf]; omega
      · have hN : Hid (SameL A E = false) := sameL_no hx hy g
        clear hx hy
        by_cases h1 : x.1 = y.1
        · have g1 : (x.1 == y.1) = true := by simp [h1]
          have g2 : (x.2 == y.2) = false := by
            rw [Bool.eq_false_iff]; intro h; simp at h; exact g (Prod.ext h1 h)
          clear h1 g
          go_upto_region 6 with fail
          go_quiet (fail)
          go_wp2_with fail
          go_ret
          exact ⟨ret_bool hN.out.symm, _, World.drewN_drewN _ _ _⟩
        · have g1 : (x.1 == y.1) = false := by simpa using h1
          clear h1 g
          go_upto_region 6 with fail
          go_quiet (fail)
          go_wp2_with fail
          go_ret
          exact ⟨ret_bool hN.out.symm, _, World.drewN_drewN _ _ _⟩
    · have hke : k = A.length := by omega
      subst hke
      have hN : Hid (SameL A E = true) := sameL_yes Hl.out hm.out
      go_wp2_with fail
      go_ret
      exact ⟨ret_bool hN.out.symm, _, rfl⟩
set_option maxHeartbeats 1000000 in
theorem same37_any (A E : List (Int × Int)) (C D : Option Addr) (cc dc : Nat) (w : World) {B : Nat} (hC : PairsAt w B C A) (hD : PairsAt w B D E) (hl : A.length ≤ 9223372036854775807) (hl2 : E.length ≤ 9223372036854775807) :
    Calls Tryd.prog 8 #[.slice C A.length cc, .slice D E.length dc] w (SameIs A E w) := by
  by_cases hle : A.length = E.length
  case neg =>
    have Hn := Lib.hid (sameL_len hle)
    have hl1 : (A.length != E.length) = true := by simp; exact hle
    have hl2 : ((A.length : Int) != (E.length : Int)) = true := by simp; omega
    go_enter Tryd.func8, Tryd.ntmps8
    go_wp2_with fail
    go_ret
    exact ⟨ret_bool Hn.out.symm, 0, rfl⟩
  have Hl := Lib.hid hle
  rw [← hle]
  clear hle hl2
  go_enter Tryd.func8, Tryd.ntmps8
  go_wp2_with fail
  go_loopw [5] (fun i wr => ∃ k m : Nat, k ≤ A.length ∧ i = .int .i64 k ∧ Hid (A.take k = E.take k) ∧ wr = w.drewN m) (fun i _ => A.length - (intOf i).toNat)
  case atStart => exact ⟨0, 0, Nat.zero_le _, rfl, rfl, rfl⟩
  case round =>
    obtain ⟨k, m, hk, rfl, hm, hwr⟩ := hrel
    subst hwr
    by_cases hlt : k < A.length
    · obtain ⟨x, hx⟩ : ∃ x, A[k]? = some x := ⟨_, List.getElem?_eq_getElem hlt⟩
      obtain ⟨y, hy⟩ : ∃ y, E[k]? = some y := ⟨_, List.getElem?_eq_getElem (by have := Hl.out; omega)⟩
      obtain ⟨b, off, rfl, hb, c0, c1⟩ := hC.at_ hx
      obtain ⟨b2, off2, rfl, hb2, d0, d1⟩ := hD.at_ hy
      have hk0 : 0 ≤ (k : Int) ∧ (k : Int) < (A.length : Int) := by omega
      by_cases g : x = y
      · have hN : Hid (A.take (k + 1) = E.take (k + 1)) := take_both hm.out hx (g ▸ hy)
        have g1 : (x.1 == y.1) = true := by simp [g]
        have g2 : (x.2 == y.2) = true := by simp [g]
        clear hx hy g
        go_upto_region 6 with fail
        go_quiet (fail)
        go_wp2_with fail
        go_roundw
        case rel => exact ⟨k + 1, _, by omega, by go_num, hN, rfl⟩
        case measure => simp [intOf]; omega
      · have hN : Hid (SameL A E = false) := sameL_no hx hy g
        clear hx hy
        by_cases h1 : x.1 = y.1
        · have g1 : (x.1 == y.1) = true := by simp [h1]
          have g2 : (x.2 == y.2) = false := by
            rw [Bool.eq_false_iff]; intro h; simp at h; exact g (Prod.ext h1 h)
          clear h1 g
          go_upto_region 6 with fail
          go_quiet (fail)
          go_wp2_with fail
          go_ret
          exact ⟨ret_bool hN.out.symm, _, World.drewN_drewN _ _ _⟩
        · have g1 : (x.1 == y.1) = false := by simpa using h1
          clear h1 g
          go_upto_region 6 with fail
          go_quiet (fail)
          go_wp2_with fail
          go_ret
          exact ⟨ret_bool hN.out.symm, _, World.drewN_drewN _ _ _⟩
    · have hke : k = A.length := by omega
      subst hke
      have hN : Hid (SameL A E = true) := sameL_yes Hl.out hm.out
      go_wp2_with fail
      go_ret
      exact ⟨ret_bool hN.out.symm, _, rfl⟩
end Go.Proofs.YtkbceeobnbbfbaaDoor

