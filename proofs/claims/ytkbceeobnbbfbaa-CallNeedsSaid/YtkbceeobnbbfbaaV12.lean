/- The walk of Excuses. -/
import Derived.Test.YtkbceeobnbbfbaaV10
import Derived.Test.YtkbceeobnbbfbaaV4
import Derived.Deep.AppendLies
set_option linter.unusedSimpArgs false
set_option linter.unusedVariables false
namespace Go.Proofs.Ytkbceeobnbbfbaa
open Go.RowKit CM
attribute [local go_sem] alloc_drewN setCell_drewN shape_drewN

def excN (pl : Pl) (R : List Rt) (S : List Int) (G : List (Int × Int)) : List (Int × Int) := excL pl R (supF S) S.length G
/-- The excuses of the i-th right. -/
def excI (pl : Pl) (R : List Rt) (S : List Int) (G : List (Int × Int)) (i : Nat) : List (Int × Int) :=
  if shortF pl R G i && decide (0 ≤ stopN pl R S G i) then (wetF G R.length (i + 1)).map (fun j => ((rtN R i).id, (rtN R j).id)) else []
def excT (pl : Pl) (R : List Rt) (S : List Int) (G : List (Int × Int)) (k : Nat) : List (Int × Int) := (List.range k).flatMap (excI pl R S G)
section
variable {pl : Pl} {R : List Rt} {S : List Int} {G : List (Int × Int)}
theorem excT_end : excT pl R S G R.length = excN pl R S G := rfl
theorem excT_succ (k : Nat) : excT pl R S G (k + 1) = excT pl R S G k ++ excI pl R S G k := by
  unfold excT; rw [List.range_succ, List.flatMap_append]; simp
theorem wetF_len (m i : Nat) : (wetF G m i).length ≤ m := wetT_len G i m
theorem excI_len (k : Nat) : (excI pl R S G k).length ≤ R.length := by
  unfold excI
  split
  · rw [List.length_map]; exact wetF_len _ _
  · simp
theorem excT_len : ∀ k, (excT pl R S G k).length ≤ k * R.length
  | 0 => by simp [excT]
  | k + 1 => by
    have ih := excT_len k
    have := excI_len (pl := pl) (R := R) (S := S) (G := G) k
    rw [excT_succ, List.length_append, Nat.add_mul]; omega
theorem wetF_lt {m i j : Nat} (h : j ∈ wetF G m i) : j < m := List.mem_range.1 (List.mem_filter.1 h).1
end
theorem Try.infoExcuse : (Try.prog.info? 60).map (fun i => (i.zero, i.size, i.bytes)) = some (some (.agg #[.int .i64 0, .int .i64 0]), 2, 16) := by kernel_rfl
theorem owns_cap {w : World} {base e size n : Nat} {v : Value} {xs : List Value} (h : w.ownsRow base e size v n xs) {C : Option Addr} {l cc : Nat} (hv : v = .slice C l cc) : l ≤ cc := by
  rcases h.2 with ⟨e1, _⟩ | ⟨g, cap, cur, e1, _, _, hle, _⟩
  · rw [hv] at e1; injection e1 with _ a b; omega
  · rw [hv] at e1; injection e1 with _ a b; omega
def PairsRes (l : List (Int × Int)) (w : World) (e : Ending) (w' : World) : Prop := ∃ C cc, e = .returned (.slice C l.length cc) ∧ l.length ≤ cc ∧ PairsAt w' w'.heap.size C l ∧ Below w.heap.size w w'
/-- The three slices that look leaves, in a block of their own. -/
def DayB (w : World) (hd : Nat) (br bl bt n m : Nat) : Prop := w.heap[hd]? = some (.cells #[.slice (some ⟨br, 0, none⟩) n n, .slice (some ⟨bl, 0, none⟩) m m, .slice (some ⟨bt, 0, none⟩) m m] 65 (0, 0))
theorem DayB.cells {w : World} {hd br bl bt n m : Nat} (h : DayB w hd br bl bt n m) : w.cell? ⟨hd, 0, none⟩ = some (.slice (some ⟨br, 0, none⟩) n n) ∧ w.cell? ⟨hd, 1, none⟩ = some (.slice (some ⟨bl, 0, none⟩) m m) ∧ w.cell? ⟨hd, 2, none⟩ = some (.slice (some ⟨bt, 0, none⟩) m m) := by
  have h : w.heap[hd]? = _ := h
  refine ⟨?_, ?_, ?_⟩ <;> simp [World.cell?, h]
theorem DayB.below {w w' : World} {hd br bl bt n m B : Nat} (h : DayB w hd br bl bt n m) (hb : Below B w w') (hlt : hd < B) : DayB w' hd br bl bt n m := (hb.block hd hlt).trans h
theorem IntsAt.grown {w w' : World} {row : Option Nat} {B : Nat} {C : Option Addr} {l : List Int} (h : IntsAt w B C l) (hB : B ≤ w.heap.size) (hG : w.grownBy w' row) (hne : ∀ a, C = some a → some a.block ≠ row) : IntsAt w' B C l := by
  intro hm
  obtain ⟨b, off, e, hb, hc⟩ := h hm
  exact ⟨b, off, e, hb, fun j hj => (Plan.grown_cells hG b _ (by omega) (hne _ e)).trans (hc j hj)⟩
set_option maxRecDepth 100000 in
set_option maxHeartbeats 8000000 in
theorem excuses_any (X : Bas) (pl : Pl) (R : List Rt) (S : List Int) (G : List (Int × Int)) (C : Option Addr) (cr : Nat) (E : Option Addr) (cs : Nat) (D : Option Addr) (cg : Nat) (w : World) {B : Nat} (hP : PlacesAt w B X.P pl) (hR : RightsAt w B C R) (hE : IntsAt w B E S) (hG : PairsAt w B D G) (hB : B ≤ w.heap.size)
    (hl : pl.length ≤ 1000000) (hr : R.length ≤ 1000) (hg : G.length ≤ 1000000) (hs : S.length ≤ 9223372036854775807) (hS : ∀ x ∈ S, In64 x) :
    Calls Try.prog 16 #[.agg #[.string X.nm, .slice X.a1 X.l1 X.c1, .int .i64 X.cl, .slice X.P pl.length X.cP, .slice X.a4 X.l4 X.c4, .slice X.a5 X.l5 X.c5, .slice X.a6 X.l6 X.c6, .slice X.a7 X.l7 X.c7, .slice X.a8 X.l8 X.c8, .slice X.a9 X.l9 X.c9, .int .i64 X.er], .slice C R.length cr, .slice E S.length cs, .slice D G.length cg] w (PairsRes (excN pl R S G) w) := by
  obtain ⟨g0, gi, gz0, gz1, gz2⟩ := info_parts Try.infoExcuse
  have K1 := Lib.hid (fun (wx : World) (h : Below w.heap.size w wx) => look_any X pl R S G C cr E cs D cg wx (B := B) (hP.below (h.mono hB)) (hR.below (h.mono hB)) (hE.below (h.mono hB)) (hG.below (h.mono hB)) (by have := h.size; omega) hl (by omega) hg hs hS)
  have K2 := Lib.hid (fun (k br bl bt M : Nat) (wx : World) (h : LookAt pl R S G br bl bt M wx) (hk : k < R.length) (hM : M ≤ wx.heap.size) => stop_any pl R S G br bl bt M k wx h hk hM hl (by omega))
  have K3 := Lib.hid (fun (k : Nat) (wx : World) (hk : k < R.length) (h : Below w.heap.size w wx) => short_any X pl R G C cr D cg k wx (B := B) (hR.below (h.mono hB)) (hG.below (h.mono hB)) (by have := h.size; omega) hl (by omega) hg hk)
  have K4 : Hid (∀ (k : Nat) (wx : World), k < R.length → Below w.heap.size w wx → Calls Try.prog 35 #[.slice C R.length cr, .slice D G.length cg, .int .i64 ((k : Int) + 1)] wx (ReachIs (wetF G R.length (k + 1)) wx)) := fun k wx hk h => by
    have q := wet_any R G C cr D cg (k + 1) wx (B := B) (hG.below (h.mono hB)) (by have := h.size; omega) (by omega) hg (by omega)
    rwa [Int.natCast_succ] at q
  go_enter Try.func16, Try.ntmps16
  go_wp2_with (first | (go_at_call 33; ((with_reducible refine (K1.out _ ((Below.refl _ _).alloc (Nat.le_refl _) _)).mono ?_); rintro e1 w1 ⟨br, bl, bt, rfl, hL, hb1⟩; have HL := Lib.hid hL; clear hL)) | fail)
  clear K1
  go_loopw [10, 22] (fun out i wr => ∃ k : Nat, k ≤ R.length ∧ i = .int .i64 k ∧ wr.ownsRow (w1.heap.size + 1) 60 2 out (excT pl R S G k).length (rowP (excT pl R S G k)) ∧ BoxB wr w.heap.size X pl ∧ DayB wr w1.heap.size br bl bt R.length pl.length ∧ LookAt pl R S G br bl bt w1.heap.size wr ∧ Below w.heap.size w wr ∧ w1.heap.size + 1 ≤ wr.heap.size) (fun _ i _ => R.length - (intOf i).toNat)
  case atStart =>
    refine ⟨0, Nat.zero_le _, rfl, World.ownsRow_nil _ _ _ _, ?_, heap_alloc_new w1 _, HL.out.below ((Below.refl _ _).alloc (Nat.le_refl _) _), ?_, by simp⟩
    · exact ((BoxB.new w X pl).below (B := w.heap.size + 1) (hb1.mono (by simp)) (by omega)).below (B := w.heap.size + 1) ((Below.refl _ _).alloc (by have := hb1.size; simpa using this) _) (by omega)
    · exact (((Below.refl _ _).alloc (Nat.le_refl _) _).trans (hb1.mono (by simp))).alloc (by have := hb1.size; simp at this; omega) _
  case round =>
    have hw1 : w.heap.size + 1 ≤ w1.heap.size := by have := hb1.size; simpa using this
    clear HL hb1
    obtain ⟨k, hk, rfl, hrow, hX, hDy, hL, hBw, hz⟩ := hrel
    obtain ⟨x0, x1, x2, x3, x4, x5, x6, x7, x8, x9, x10⟩ := hX.cells
    obtain ⟨y0, y1, y2⟩ := hDy.cells
    by_cases hlt : k < R.length
    case neg =>
      have hke : k = R.length := by omega
      subst hke
      rw [excT_end] at hrow
      obtain ⟨F1, cc, he1, hI⟩ := pairs_of_owns hrow
      have hcap := owns_cap hrow he1
      subst he1
      clear hrow K2 K3 K4
      go_wp2_with fail
      go_ret
      exact ⟨F1, cc, rfl, hcap, hI, hBw⟩
    have hTl := excT_len (pl := pl) (R := R) (S := S) (G := G) k
    have hTk : k * R.length ≤ 1000000 := Nat.le_trans (Nat.mul_le_mul (by omega : k ≤ 1000) hr) (by omega)
    obtain ⟨r, hx⟩ : ∃ r, R[k]? = some r := ⟨_, List.getElem?_eq_getElem hlt⟩
    have K5 := Lib.hid (fun wx h => K3.out k wx hlt h)
    have K6 := Lib.hid (fun wx (h : LookAt pl R S G br bl bt w1.heap.size wx) (hM : w1.heap.size ≤ wx.heap.size) => K2.out k br bl bt w1.heap.size wx h hlt hM)
    have K7 := Lib.hid (fun wx h => K4.out k wx hlt h)
    have hsucc := excT_succ (pl := pl) (R := R) (S := S) (G := G) k
    have hI0 : excI pl R S G k = if shortF pl R G k && decide (0 ≤ stopN pl R S G k) then (wetF G R.length (k + 1)).map (fun j => ((rtN R k).id, (rtN R j).id)) else [] := rfl
    rw [rtN_of hx] at hI0
    clear K3 K2 K4
    obtain ⟨b, off, rfl, hb, r0w, r1, r2, r3, r4, r5, r6, r7, r8⟩ := hR.at_ hx
    obtain ⟨q0, q1, q2, q3, q4, q5, q6, q7, q8⟩ : wr.cell? ⟨b, off + k * 9, none⟩ = some (.int .i64 r.id) ∧ wr.cell? ⟨b, off + k * 9 + 1, none⟩ = some (.int .i64 r.owner) ∧ wr.cell? ⟨b, off + k * 9 + 2, none⟩ = some (.int .i64 r.date) ∧
      wr.cell? ⟨b, off + k * 9 + 3, none⟩ = some (.int .i64 r.place) ∧ wr.cell? ⟨b, off + k * 9 + 4, none⟩ = some (.int .i64 r.rate) ∧ wr.cell? ⟨b, off + k * 9 + 5, none⟩ = some (.int .i64 r.from1) ∧
      wr.cell? ⟨b, off + k * 9 + 6, none⟩ = some (.int .i64 r.until1) ∧ wr.cell? ⟨b, off + k * 9 + 7, none⟩ = some (.int .i64 r.back) ∧ wr.cell? ⟨b, off + k * 9 + 8, none⟩ = some (.int .i64 r.backTo) := by
      have q := fun o => hBw.cell (p := ⟨b, o, none⟩) (by show b < _; omega)
      exact ⟨(q _).trans r0w, (q _).trans r1, (q _).trans r2, (q _).trans r3, (q _).trans r4, (q _).trans r5, (q _).trans r6, (q _).trans r7, (q _).trans r8⟩
    clear r0w r1 r2 r3 r4 r5 r6 r7 r8 hx
    have hbw : b < wr.heap.size := by have := hBw.size; omega
    have hzw : w.heap.size < wr.heap.size := by omega
    have hzd : w1.heap.size < wr.heap.size := by omega
    cases hF : shortF pl R G k
    case false =>
      have hs : Hid (excT pl R S G (k + 1) = excT pl R S G k) := by show _ = _; rw [hsucc, hI0, hF]; simp
      have K8 := fun wx h => (K5.out wx h)
      unfold BoolIs at K8
      rw [hF] at K8
      have K8 := Lib.hid K8
      clear hF K5 hsucc hI0
      go_wp2_with (first | (go_at_call 31; ((with_reducible refine (K8.out _ (hBw.alloc (by omega) _)).mono ?_); rintro e2 w2 ⟨rfl, hb2⟩)) | fail)
      have hb9 : Below wr.heap.size wr w2 := ((Below.refl _ _).alloc (Nat.le_refl _) _).trans (hb2.mono (by simp))
      have hrow1 := row_below hrow hb9
      have hX1 := hX.below hb9 hzw
      have hD1 := hDy.below hb9 hzd
      have hL1 := hL.below (hb9.mono (by omega))
      have hB1 := hBw.trans (hb9.mono (by omega))
      have hz1' : w1.heap.size + 1 ≤ w2.heap.size := by have := hb9.size; omega
      clear hrow hX hBw hb9 hb2 hDy hL
      go_roundw
      case rel => exact ⟨k + 1, by omega, by go_num, by rw [hs.out]; exact hrow1, hX1, hD1, hL1, hB1, hz1'⟩
      case measure => simp [intOf]; omega
    have K8 := fun wx h => (K5.out wx h)
    unfold BoolIs at K8
    rw [hF] at K8
    have K8 := Lib.hid K8
    obtain ⟨sv, hsv⟩ : ∃ sv, stopN pl R S G k = sv := ⟨_, rfl⟩
    have K9 := fun wx h hM => (K6.out wx h hM)
    unfold IntBe at K9
    rw [hsv] at K9
    have K9 := Lib.hid K9
    clear K5 K6
    have hLh := Lib.hid hL
    by_cases hst : 0 ≤ sv
    case neg =>
      have hs : Hid (excT pl R S G (k + 1) = excT pl R S G k) := by show _ = _; rw [hsucc, hI0, hF, hsv, decide_eq_false hst]; simp
      clear hF hsucc hI0 hsv
      go_wp2_with (first | (go_at_call 31; ((with_reducible refine (K8.out _ (hBw.alloc (by omega) _)).mono ?_); rintro e2 w2 ⟨rfl, hb2⟩; have hb9 : Below wr.heap.size wr w2 := ((Below.refl _ _).alloc (Nat.le_refl _) _).trans (hb2.mono (by simp)); have kc := (bcell hb9).1)) | (go_at_call 34; ((with_reducible refine (K9.out _ (hLh.out.below (hb9.mono (by omega))) (by have := hb9.size; omega)).mono ?_); rintro e3 w3 ⟨rfl, hb3⟩)) | fail)
      have hb10 := hb9.trans (hb3.mono hb9.size)
      have hrow1 := row_below hrow hb10
      have hX1 := hX.below hb10 hzw
      have hD1 := hDy.below hb10 hzd
      have hL1 := hL.below (hb10.mono (by omega))
      have hB1 := hBw.trans (hb10.mono (by omega))
      have hz1' : w1.heap.size + 1 ≤ w3.heap.size := by have := hb10.size; omega
      clear hrow hX hBw hb9 hb2 hDy hL kc hb3 hb10
      go_roundw
      case rel => exact ⟨k + 1, by omega, by go_num, by rw [hs.out]; exact hrow1, hX1, hD1, hL1, hB1, hz1'⟩
      case measure => simp [intOf]; omega
    have hIe : Hid (excI pl R S G k = (wetF G R.length (k + 1)).map (fun j => (r.id, (rtN R j).id))) := by show _ = _; rw [hI0, hF, hsv, decide_eq_true hst]; rfl
    obtain ⟨n, hn⟩ : ∃ n : Nat, Hid ((wetF G R.length (k + 1)).length = n) := ⟨_, rfl⟩
    have hnl : n ≤ 1000 := by have := wetF_len (G := G) R.length (k + 1); have := hn.out; omega
    have K10 : Hid (∀ wx : World, Below w.heap.size w wx → Calls Try.prog 35 #[.slice (some ⟨b, off, none⟩) R.length cr, .slice D G.length cg, .int .i64 ((k : Int) + 1)] wx fun e w' => ∃ E1 ee, e = .returned (.slice E1 n ee) ∧ IntsAt w' w'.heap.size E1 (natsI (wetF G R.length (k + 1))) ∧ (∀ a, E1 = some a → wx.heap.size ≤ a.block) ∧ Below wx.heap.size wx w') := fun wx h => (K7.out wx h).mono fun e w' ⟨E1, ee, he, h1, h3, h2⟩ => ⟨E1, ee, by rw [he, hn.out], h1, h3, h2⟩
    clear hF hI0 hsv K7
    go_wp2_with (first | (go_at_call 31; ((with_reducible refine (K8.out _ (hBw.alloc (by omega) _)).mono ?_); rintro e2 w2 ⟨rfl, hb2⟩; have hb9 : Below wr.heap.size wr w2 := ((Below.refl _ _).alloc (Nat.le_refl _) _).trans (hb2.mono (by simp)); have kc := (bcell hb9).1)) | (go_at_call 34; ((with_reducible refine (K9.out _ (hLh.out.below (hb9.mono (by omega))) (by have := hb9.size; omega)).mono ?_); rintro e3 w3 ⟨rfl, hb3⟩; have hb10 := hb9.trans (hb3.mono hb9.size))) | (go_at_call 35; ((with_reducible refine (K10.out _ (hBw.trans (hb10.mono (by omega)))).mono ?_); rintro e4 w4 ⟨E1, ee, rfl, hI, hFr, hb4⟩)) | fail)
    have hb11 := hb10.trans (hb4.mono hb10.size)
    have hne0 : ∀ a, E1 = some a → ∀ g, u10.ownBlock = some g → g ≠ a.block := fun a ha g hg => by
      have h1 := (hrow.lt g hg).2
      have h2 := hFr a ha
      have h3 := hb10.size
      omega
    have hne1 : ∀ g, u10.ownBlock = some g → g ≠ wr.heap.size := fun g hg => by have := (hrow.lt g hg).2; omega
    have hrow1 := row_below hrow hb11
    have hX1 := hX.below hb11 hzw
    have hD1 := hDy.below hb11 hzd
    have hL1 := hL.below (hb11.mono (by omega))
    have hB1 := hBw.trans (hb11.mono (by omega))
    have hz1' : wr.heap.size + 1 ≤ w4.heap.size := by have h1 := hb2.size; have h2 := hb3.size; have h3 := hb4.size; simp at h1; omega
    have p0 : w4.cell? ⟨wr.heap.size, 0, none⟩ = some (.int .i64 r.id) := by
      rw [hb4.cell (p := ⟨wr.heap.size, 0, none⟩) (by have h1 := hb2.size; have h2 := hb3.size; simp at h1; show wr.heap.size < _; omega), hb3.cell (p := ⟨wr.heap.size, 0, none⟩) (by have h1 := hb2.size; simp at h1; show wr.heap.size < _; omega), hb2.cell (p := ⟨wr.heap.size, 0, none⟩) (by simp)]
      go_simp
    clear hrow hX hBw hb9 hb2 hDy hL kc hb3 hb10 hb4 hb11 x0 x1 x2 x3 x4 x5 x6 x7 x8 x9 x10 y0 y1 y2 q0 q1 q2 q3 q4 q5 q6 q7 q8 K8 K9 K10
    obtain ⟨wo, rfl⟩ : ∃ wo, wo = wr := ⟨_, rfl⟩
    clear hFr
    go_loopw [10, 45] (fun out i wr => ∃ j : Nat, j ≤ n ∧ i = .int .i64 j ∧ wr.ownsRow (w1.heap.size + 1) 60 2 out ((excT pl R S G k).length + j) (rowP (excT pl R S G k ++ (excI pl R S G k).take j)) ∧ (∀ a, E1 = some a → ∀ g, out.ownBlock = some g → g ≠ a.block ∧ g ≠ wo.heap.size) ∧ wr.cell? ⟨wo.heap.size, 0, none⟩ = some (.int .i64 r.id) ∧ BoxB wr w.heap.size X pl ∧ DayB wr w1.heap.size br bl bt R.length pl.length ∧ LookAt pl R S G br bl bt w1.heap.size wr ∧ Below w.heap.size w wr ∧ wo.heap.size + 1 ≤ wr.heap.size ∧ IntsAt wr wr.heap.size E1 (natsI (wetF G R.length (k + 1)))) (fun _ i _ => n - (intOf i).toNat)
    case atStart =>
      refine ⟨0, Nat.zero_le _, rfl, ?_, fun a ha g hg => ⟨hne0 a ha g hg, hne1 g hg⟩, p0, hX1, hD1, hL1, hB1, hz1', hI⟩
      rw [List.take_zero, List.append_nil]; exact hrow1
    case round =>
      clear hrow1 hX1 hD1 hL1 hB1 hz1' hI p0 hne0 hne1
      obtain ⟨j, hj, rfl, hrow, hne, p0, hX, hDy, hL, hBw, hz2, hI⟩ := hrel
      by_cases hjl : j < n
      case neg =>
        have hje : Hid (j = (excI pl R S G k).length) := by show _ = _; rw [hIe.out, List.length_map, hn.out]; omega
        have hr9 : wr.ownsRow (w1.heap.size + 1) 60 2 u10 (excT pl R S G (k + 1)).length (rowP (excT pl R S G (k + 1))) := by
          have := hrow
          rw [hje.out, List.take_length, ← List.length_append, ← hsucc] at this
          exact this
        have hz3 : w1.heap.size + 1 ≤ wr.heap.size := by omega
        clear hrow hsucc
        go_wp2_with fail
        go_roundw
        case rel => exact ⟨k + 1, by omega, by go_num, hr9, hX, hDy, hL, hBw, hz3⟩
        case measure => simp [intOf]; omega
      obtain ⟨jj, hq⟩ : ∃ jj, (wetF G R.length (k + 1))[j]? = some jj := ⟨_, List.getElem?_eq_getElem (by rw [hn.out]; exact hjl)⟩
      have hjr : jj < R.length := wetF_lt (List.mem_of_getElem? hq)
      have hqI : (natsI (wetF G R.length (k + 1)))[j]? = some (jj : Int) := by unfold natsI; rw [List.getElem?_map, hq]; rfl
      obtain ⟨r2, hx2⟩ : ∃ r2, R[jj]? = some r2 := ⟨_, List.getElem?_eq_getElem hjr⟩
      obtain ⟨b', off', e', hb', s0, _⟩ := hR.at_ hx2
      obtain ⟨rfl, rfl⟩ : b = b' ∧ off = off' := by injection e' with e'; injection e' with e1 e2; exact ⟨e1, e2⟩
      have s1 := (hBw.cell (p := ⟨b, off + jj * 9, none⟩) (by show b < _; omega)).trans s0
      have hnew : Hid ((excI pl R S G k).take (j + 1) = (excI pl R S G k).take j ++ [(r.id, r2.id)]) := by
        show _ = _
        rw [List.take_add_one]
        congr 1
        rw [hIe.out, List.getElem?_map, hq]
        simp [rtN_of hx2]
      obtain ⟨b5, off5, rfl, hb5, c5⟩ := hI.at_ hqI
      have hjI : (0 : Int) ≤ (jj : Int) ∧ (jj : Int) < (R.length : Int) := by omega
      have hne2 := hne _ rfl
      clear hq hqI e' s0 hx2
      have hbw2 : b < wr.heap.size := by have := hBw.size; omega
      have hzo2 : wo.heap.size < wr.heap.size := by omega
      go_upto_region 10 with fail
      have hnb : some b ≠ u10.ownBlock := fun e => by have := (hrow.lt b e.symm).1; omega
      have hno : some wo.heap.size ≠ u10.ownBlock := fun e => (hne2 _ e.symm).2 rfl
      have hn5 : some b5 ≠ u10.ownBlock := fun e => (hne2 _ e.symm).1 rfl
      have HR := Lib.hid hrow
      refine Plan.wp_region_grown (u10.ownBlock) (.rd 0 (.rd 1 (.rd 2 (.rd 3 (.rd 4 (.rd 5 (.rd 6 (.rd 7 (.rd 8 (.wr 9 (.wr 10 (.rd 11 .done)))))))))))) (by kernel_rfl) (by kernel_rfl) ?_
      (repeat (first | (refine Plan.tree_read (v := ?_) rfl rfl ?_ ?_; rotate_left; (focus ((intro wS hSw; have hkS := Plan.grown_cells hSw; go_simp); try with_reducible rfl)); simp only [Act.put, List.setIfInBounds_toArray, List.set_cons_zero, List.set_cons_succ]) | (refine Plan.tree_skip rfl rfl ?_; simp only [Act.put, List.setIfInBounds_toArray, List.set_cons_zero, List.set_cons_succ])))
      (refine Plan.tree_write rfl (fun K hK => ?_); try go_simp)
      refine hK.out _ _ (Plan.grown_alloc (Plan.grown_drew _ _) _) ?_
      clear hK K
      try simp only [Act.put, List.setIfInBounds_toArray, List.set_cons_zero, List.set_cons_succ]
      (repeat (first | (refine Plan.tree_read (v := ?_) rfl rfl ?_ ?_; rotate_left; (focus ((intro wS hSw; have hkS := Plan.grown_cells hSw; go_simp); try with_reducible rfl)); simp only [Act.put, List.setIfInBounds_toArray, List.set_cons_zero, List.set_cons_succ]) | (refine Plan.tree_skip rfl rfl ?_; simp only [Act.put, List.setIfInBounds_toArray, List.set_cons_zero, List.set_cons_succ])))
      refine Plan.tree_write rfl (fun K hK => ?_)
      refine step_append_lies _ (by rfl) _ _ _ (by rfl) (w1.heap.size + 1) 60 g0 _ 2 16 Try.underlying34 gi gz0 gz1 gz2 rfl (by omega) u10 ((excT pl R S G k).length + j) _ (by rfl) ((HR.out.alloc _).drew) ⟨wr.heap.size, 0, none⟩ 1 1 [.int .i64 r.id, .int .i64 r2.id] (by rfl) (by rfl) (cell_two_at (w := wr.drew) (by simp) _ _ _) (by simp [Value.oneCell']) (by omega) (by unfold maxLen; omega) (by omega) (by simp; omega) (wr.heap.size + 1) (by simp) ?_
      intro gg cap w5 hown5 hgrow5 hat5 hlt5
      refine hK.out _ _ (Plan.grown_go (Plan.grown_alloc (Plan.grown_drew _ _) _) hgrow5) ?_
      clear hK K
      try simp only [Act.put, List.setIfInBounds_toArray, List.set_cons_zero, List.set_cons_succ]
      (repeat (first | (refine Plan.tree_read (v := ?_) rfl rfl ?_ ?_; rotate_left; (focus ((intro wS hSw; have hkS := Plan.grown_cells hSw; go_simp); try with_reducible rfl)); simp only [Act.put, List.setIfInBounds_toArray, List.set_cons_zero, List.set_cons_succ]) | (refine Plan.tree_skip rfl rfl ?_; simp only [Act.put, List.setIfInBounds_toArray, List.set_cons_zero, List.set_cons_succ])))
      refine Plan.tree_done ?_
      go_wp2_with fail
      have hG5 : wr.grownBy w5 u10.ownBlock := Plan.grown_go (Plan.grown_alloc (Plan.grown_drew _ _) _) hgrow5
      have hb5' : Below (w1.heap.size + 1) wr w5 := (Below.refl _ _).grown hG5 (by omega) (fun g hg => (hrow.lt g hg).1)
      have hrow5 : w5.ownsRow (w1.heap.size + 1) 60 2 (.slice (some ⟨gg, 0, none⟩) ((excT pl R S G k).length + j + 1) cap) ((excT pl R S G k).length + (j + 1)) (rowP (excT pl R S G k ++ (excI pl R S G k).take (j + 1))) := by
        rw [hnew.out, ← List.append_assoc, rowP_snoc]; exact hown5
      have hne5 : ∀ a, (some ⟨b5, off5, none⟩ : Option Addr) = some a → ∀ g, (Value.slice (some ⟨gg, 0, none⟩) ((excT pl R S G k).length + j + 1) cap).ownBlock = some g → g ≠ a.block ∧ g ≠ wo.heap.size := by
        intro a ha g hg
        obtain rfl := Option.some.inj ha
        obtain rfl : gg = g := by simpa [Value.ownBlock] using hg
        rcases hat5 with e | e
        · exact hne2 _ e
        · show gg ≠ b5 ∧ gg ≠ wo.heap.size
          omega
      have p5 := (Plan.grown_cells hG5 wo.heap.size 0 hzo2 hno).trans p0
      have hI5 : IntsAt w5 w5.heap.size (some ⟨b5, off5, none⟩) (natsI (wetF G R.length (k + 1))) := (hI.grown (Nat.le_refl _) hG5 (fun a ha => by obtain rfl := Option.some.inj ha; exact hn5)).more hG5.size
      have hX5 := hX.below hb5' (by omega)
      have hD5 := hDy.below hb5' (by omega)
      have hL5 := hL.below (hb5'.mono (by omega))
      have hB5 := hBw.trans (hb5'.mono (by omega))
      have hz5 : wo.heap.size + 1 ≤ w5.heap.size := by have := hG5.size; omega
      clear hrow hX hDy hL hBw hI p0 hown5 hgrow5 hat5 hG5 hb5' hne hne2
      exact ⟨⟨j + 1, by omega, by go_num, hrow5, hne5, p5, hX5, hD5, hL5, hB5, hz5, hI5⟩, by simp [intOf]; omega⟩
end Go.Proofs.Ytkbceeobnbbfbaa
