/- Walks of stop, Stop. -/
import Derived.Test.YtkbceeobnbbfbaaLK
set_option linter.unusedSimpArgs false
set_option linter.unusedVariables false
namespace Go.Proofs.Ytkbceeobnbbfbaa
open Go.RowKit CM
attribute [local go_sem] alloc_drewN setCell_drewN shape_drewN

def stopP (pl : Pl) (R : List Rt) (S : List Int) (G : List (Int × Int)) (i : Nat) (q : Nat) : Bool := decide (lefW pl R S G R.length q ≤ 0) && decide (lastW pl R G R.length q ≤ i)
def stopN (pl : Pl) (R : List Rt) (S : List Int) (G : List (Int × Int)) (i : Nat) : Int := stopF pl R (supF S) S.length G i
theorem find_hit {l : List Nat} {p : Nat → Bool} {j q : Nat} (hn : ∀ x ∈ l.take j, p x = false) (hq : l[j]? = some q) (hp : p q = true) : l.find? p = some q := by
  have e : l = l.take j ++ q :: l.drop (j + 1) := by
    have hlt := (List.getElem?_eq_some_iff.1 hq).1
    have hx : l[j] = q := (List.getElem?_eq_some_iff.1 hq).2
    have h1 : l.drop j = q :: l.drop (j + 1) := by rw [List.drop_eq_getElem_cons hlt, hx]
    rw [← h1, List.take_append_drop]
  rw [e, List.find?_append, List.find?_cons, hp]
  have : (l.take j).find? p = none := List.find?_eq_none.2 (fun x hx => by rw [hn x hx]; simp)
  rw [this]; rfl
theorem stop_hit {pl : Pl} {R : List Rt} {S : List Int} {G : List (Int × Int)} {i j q : Nat} (hn : ∀ x ∈ (rcR pl R i).take j, stopP pl R S G i x = false) (hq : (rcR pl R i)[j]? = some q) (hp : stopP pl R S G i q = true) : stopN pl R S G i = q := by
  show ((match (rcR pl R i).find? (stopP pl R S G i) with | some q => (q : Int) | none => (-1 : Int)) : Int) = (q : Int)
  rw [find_hit hn hq hp]
theorem stop_none {pl : Pl} {R : List Rt} {S : List Int} {G : List (Int × Int)} {i : Nat} (hn : ∀ x ∈ (rcR pl R i).take (rcR pl R i).length, stopP pl R S G i x = false) : stopN pl R S G i = -1 := by
  show ((match (rcR pl R i).find? (stopP pl R S G i) with | some q => (q : Int) | none => (-1 : Int)) : Int) = (-1 : Int)
  rw [List.take_length] at hn
  rw [List.find?_eq_none.2 (fun x hx => by rw [hn x hx]; simp)]
theorem all_take_succ {l : List Nat} {p : Nat → Bool} {j q : Nat} (hn : ∀ x ∈ l.take j, p x = false) (hq : l[j]? = some q) (hp : p q = false) : ∀ x ∈ l.take (j + 1), p x = false := by
  intro x hx
  rw [List.take_add_one, hq] at hx
  rcases List.mem_append.1 hx with h | h
  · exact hn x h
  · simp at h; rw [h]; exact hp
set_option maxHeartbeats 4000000 in
theorem stop_any (pl : Pl) (R : List Rt) (S : List Int) (G : List (Int × Int)) (br bl bt M i : Nat) (w : World) (hL : LookAt pl R S G br bl bt M w) (hi : i < R.length) (hM : M ≤ w.heap.size) (hl : pl.length ≤ 1000000) (hr : R.length ≤ 1000000) :
    Calls Try.prog 34 #[.agg #[.slice (some ⟨br, 0, none⟩) R.length R.length, .slice (some ⟨bl, 0, none⟩) pl.length pl.length, .slice (some ⟨bt, 0, none⟩) pl.length pl.length], .int .i64 i] w (IntBe (stopN pl R S G i) w) := by
  obtain ⟨C, cc, cB, hI⟩ := hL.rows i hi
  obtain ⟨m1, m2, m3⟩ := hL.lt
  have hbr : br < w.heap.size := by omega
  have hln := rcR_len (pl := pl) (R := R) i
  obtain ⟨n, hn⟩ : ∃ n : Nat, Hid ((rcR pl R i).length = n) := ⟨_, rfl⟩
  have hnl : n ≤ 1000000 := by have := hn.out; omega
  rw [hn.out] at cB
  have HL := Lib.hid hL
  clear hL hln
  go_enter Try.func34, Try.ntmps34
  go_wp2_with fail
  go_loop [13] (fun c => ∃ j : Nat, j ≤ n ∧ c = .int .i64 j ∧ Hid (∀ x ∈ (rcR pl R i).take j, stopP pl R S G i x = false)) (fun c => n - (intOf c).toNat)
  case atStart => exact ⟨0, Nat.zero_le _, rfl, fun x hx => by simp at hx⟩
  case round =>
    obtain ⟨j, hj, rfl, hno⟩ := hrel
    by_cases hjl : j < n
    case neg =>
      have hF : Hid (stopN pl R S G i = -1) := stop_none (by have := hno.out; rw [show j = (rcR pl R i).length by rw [hn.out]; omega] at this; exact this)
      clear hno
      go_wp2_with fail
      go_ret
      exact ⟨ret_int hF.out.symm, (Below.refl _ _).alloc (Nat.le_refl _) _⟩
    obtain ⟨q, hq⟩ : ∃ q, (rcR pl R i)[j]? = some q := ⟨_, List.getElem?_eq_getElem (by rw [hn.out]; exact hjl)⟩
    have hqn : q < pl.length := rcR_lt (List.mem_of_getElem? hq)
    have hqI : (natsI (rcR pl R i))[j]? = some (q : Int) := by unfold natsI; rw [List.getElem?_map, hq]; rfl
    obtain ⟨b5, off5, rfl, hb5, c5⟩ := hI.at_ hqI
    have hb5w : b5 < w.heap.size := by omega
    have hblw : bl < w.heap.size := by omega
    have hbtw : bt < w.heap.size := by omega
    have aL := HL.out.left q hqn
    have aT := HL.out.last q hqn
    have hit := Lib.hid (fun hp => stop_hit (S := S) (G := G) hno.out hq hp)
    have miss := Lib.hid (fun hp => all_take_succ (p := stopP pl R S G i) hno.out hq hp)
    have hp : Hid (stopP pl R S G i q = (decide (lefW pl R S G R.length q ≤ 0) && decide (lastW pl R G R.length q ≤ i))) := rfl
    obtain ⟨V, hV⟩ : ∃ V, lefW pl R S G R.length q = V := ⟨_, rfl⟩
    obtain ⟨T, hT⟩ : ∃ T, lastW pl R G R.length q = T := ⟨_, rfl⟩
    have hp2 := hp.out
    rw [hV, hT] at hp2
    rw [hV] at aL
    rw [hT] at aT
    clear hq hqI hp hV hT hno
    by_cases h1 : V ≤ 0
    · by_cases h2 : T ≤ i
      · have hF : Hid (stopN pl R S G i = q) := hit.out (by rw [hp2, decide_eq_true h1, decide_eq_true h2]; rfl)
        clear hit miss hp2
        go_wp2_with fail
        go_ret
        exact ⟨ret_int hF.out.symm, (Below.refl _ _).alloc (Nat.le_refl _) _⟩
      · have hN := Lib.hid (miss.out (by rw [hp2, decide_eq_true h1, decide_eq_false h2]; rfl))
        clear hit miss hp2
        go_wp2_with fail
        go_round
        case rel => exact ⟨j + 1, by omega, by go_num, hN⟩
        case measure => simp [intOf]; omega
    · have hN := Lib.hid (miss.out (by rw [hp2, decide_eq_false h1]; rfl))
      clear hit miss hp2
      go_wp2_with fail
      go_round
      case rel => exact ⟨j + 1, by omega, by go_num, hN⟩
      case measure => simp [intOf]; omega
def stopI (pl : Pl) (R : List Rt) (S : List Int) (G : List (Int × Int)) (i : Int) : Int := if 0 ≤ i ∧ i < R.length then stopN pl R S G i.toNat else -1
set_option maxHeartbeats 4000000 in
theorem Stop_any (X : Bas) (pl : Pl) (R : List Rt) (S : List Int) (G : List (Int × Int)) (C : Option Addr) (cr : Nat) (E : Option Addr) (cs : Nat) (D : Option Addr) (cg : Nat) (i : Int) (w : World) {B : Nat} (hP : PlacesAt w B X.P pl) (hR : RightsAt w B C R) (hE : IntsAt w B E S) (hG : PairsAt w B D G) (hB : B ≤ w.heap.size)
    (hl : pl.length ≤ 1000000) (hr : R.length ≤ 1000000) (hg : G.length ≤ 1000000) (hs : S.length ≤ 9223372036854775807) (hS : ∀ x ∈ S, In64 x) :
    Calls Try.prog 18 #[.agg #[.string X.nm, .slice X.a1 X.l1 X.c1, .int .i64 X.cl, .slice X.P pl.length X.cP, .slice X.a4 X.l4 X.c4, .slice X.a5 X.l5 X.c5, .slice X.a6 X.l6 X.c6, .slice X.a7 X.l7 X.c7, .slice X.a8 X.l8 X.c8, .slice X.a9 X.l9 X.c9, .int .i64 X.er], .slice C R.length cr, .slice E S.length cs, .slice D G.length cg, .int .i64 i] w (IntBe (stopI pl R S G i) w) := by
  have K1 := Lib.hid (fun (wx : World) (h : Below w.heap.size w wx) => look_any X pl R S G C cr E cs D cg wx (B := B) (hP.below (h.mono hB)) (hR.below (h.mono hB)) (hE.below (h.mono hB)) (hG.below (h.mono hB)) (by have := h.size; omega) hl hr hg hs hS)
  have K2 := Lib.hid (fun (k br bl bt M : Nat) (wx : World) (h : LookAt pl R S G br bl bt M wx) (hk : k < R.length) (hM : M ≤ wx.heap.size) => stop_any pl R S G br bl bt M k wx h hk hM hl hr)
  by_cases h0 : 0 ≤ i
  case neg =>
    have hF : Hid (stopI pl R S G i = -1) := by show _ = _; unfold stopI; rw [if_neg (fun h => h0 h.1)]
    clear K1 K2
    go_enter Try.func18, Try.ntmps18
    go_wp2_with fail
    go_ret
    exact ⟨ret_int hF.out.symm, (Below.refl _ _).alloc (Nat.le_refl _) _⟩
  obtain ⟨k, rfl⟩ : ∃ k : Nat, i = k := ⟨i.toNat, by omega⟩
  by_cases h1 : k < R.length
  case neg =>
    have hF : Hid (stopI pl R S G k = -1) := by show _ = _; unfold stopI; rw [if_neg (fun h => h1 (by omega))]
    have h2 : R.length ≤ k := by omega
    clear K1 K2
    go_enter Try.func18, Try.ntmps18
    go_wp2_with fail
    go_ret
    exact ⟨ret_int hF.out.symm, (Below.refl _ _).alloc (Nat.le_refl _) _⟩
  have hF : Hid (stopI pl R S G k = stopN pl R S G k) := by show _ = _; unfold stopI; rw [if_pos ⟨by omega, by omega⟩, Int.toNat_natCast]
  go_enter Try.func18, Try.ntmps18
  go_wp2_with (first | (go_at_call 33; ((with_reducible refine (K1.out _ ((Below.refl _ _).alloc (Nat.le_refl _) _)).mono ?_); rintro e1 w1 ⟨br, bl, bt, rfl, hL, hb1⟩; have HL := Lib.hid hL; clear hL)) | (go_at_call 34; ((with_reducible refine (K2.out k br bl bt _ _ HL.out h1 (Nat.le_refl _)).mono ?_); rintro e2 w2 ⟨rfl, hb2⟩)) | fail)
  go_ret
  exact ⟨ret_int hF.out.symm, (((Below.refl _ _).alloc (Nat.le_refl _) _).trans (hb1.mono (by simp))).trans (hb2.mono (by have := hb1.size; simp at this; omega))⟩
end Go.Proofs.Ytkbceeobnbbfbaa
