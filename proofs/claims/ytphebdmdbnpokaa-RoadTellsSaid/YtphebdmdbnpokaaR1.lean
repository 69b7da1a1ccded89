/- The walks of usable, passable, volumes. -/
import Derived.Test.YtphebdmdbnpokaaRM
import Derived.Test.YtphebdmdbnpokaaRows
set_option linter.unusedSimpArgs false
set_option linter.unusedVariables false
namespace Go.Proofs.Ytphebdmdbnpokaa
open Go.RowKit RD
attribute [local go_sem] alloc_drewN setCell_drewN shape_drewN

theorem usable_false {N P : Nat} {r : Rd} (h : ¬ (0 ≤ r.frm ∧ r.frm < N ∧ 0 ≤ r.to_ ∧ r.to_ < N ∧ 1 ≤ r.hours ∧ r.hours ≤ 24 ∧ -1 ≤ r.by_ ∧ r.by_ < P)) : usableB N P r = false := by
  unfold usableB; exact decide_eq_false h
theorem usable_true {N P : Nat} {r : Rd} (h : 0 ≤ r.frm ∧ r.frm < N ∧ 0 ≤ r.to_ ∧ r.to_ < N ∧ 1 ≤ r.hours ∧ r.hours ≤ 24 ∧ -1 ≤ r.by_ ∧ r.by_ < P) : usableB N P r = true := by
  unfold usableB; exact decide_eq_true h
def UsIs (X : Bs) (r : Rd) (w : World) (e : Ending) (w' : World) : Prop := e = .returned (.bool (usableB X.N X.l3 r)) ∧ Below w.heap.size w w'
theorem UsIs.no {X : Bs} {r : Rd} {w w' : World} (hb : Below w.heap.size w w') (h : ¬ (0 ≤ r.frm ∧ r.frm < X.N ∧ 0 ≤ r.to_ ∧ r.to_ < X.N ∧ 1 ≤ r.hours ∧ r.hours ≤ 24 ∧ -1 ≤ r.by_ ∧ r.by_ < X.l3)) : UsIs X r w (.returned (.bool false)) w' := ⟨by rw [usable_false h], hb⟩
theorem UsIs.yes {X : Bs} {r : Rd} {w w' : World} (hb : Below w.heap.size w w') (h : 0 ≤ r.frm ∧ r.frm < X.N ∧ 0 ≤ r.to_ ∧ r.to_ < X.N ∧ 1 ≤ r.hours ∧ r.hours ≤ 24 ∧ -1 ≤ r.by_ ∧ r.by_ < X.l3) : UsIs X r w (.returned (.bool true)) w' := ⟨by rw [usable_true h], hb⟩
theorem UsIs.last {X : Bs} {r : Rd} {w w' : World} (hb : Below w.heap.size w w') (h : 0 ≤ r.frm ∧ r.frm < X.N ∧ 0 ≤ r.to_ ∧ r.to_ < X.N ∧ 1 ≤ r.hours ∧ r.hours ≤ 24 ∧ -1 ≤ r.by_) : UsIs X r w (.returned (.bool (decide (r.by_ < (X.l3 : Int))))) w' := by
  by_cases g : r.by_ < (X.l3 : Int)
  · rw [decide_eq_true g]; exact .yes hb (by omega)
  · rw [decide_eq_false g]; exact .no hb (by omega)
set_option maxHeartbeats 2000000 in
theorem usable_any (X : Bs) (r : Rd) (w : World) (hl : BsLen X) : Calls Try.prog 22 #[.agg #[.string X.nm, .slice X.a1 X.l1 X.c1, .int .i64 X.cl, .slice X.a3 X.l3 X.c3, .slice X.a4 X.l4 X.c4, .slice X.a5 X.T.length X.c5, .slice X.a6 X.l6 X.c6, .slice X.a7 X.R.length X.c7, .slice X.a8 X.S.length X.c8, .slice X.a9 X.l9 X.c9, .int .i64 X.er], .agg #[.string r.nm, .int .i64 r.frm, .int .i64 r.to_, .int .i64 r.hours, .int .i64 r.flow, .int .i64 r.by_, .int .i64 r.limit]] w (UsIs X r w) := by
  have hN : X.N = X.T.length + X.S.length := rfl
  obtain ⟨t1, t2, t3, t4⟩ := hl
  have HN := Lib.hid hN
  clear hN
  go_enter Try.func22, Try.ntmps22
  go_wp2_with fail
  all_goals
    go_ret
    have hb := ((Below.refl w.heap.size w).alloc (Nat.le_refl _) (.cells #[.string X.nm, .slice X.a1 X.l1 X.c1, .int .i64 X.cl, .slice X.a3 X.l3 X.c3, .slice X.a4 X.l4 X.c4, .slice X.a5 X.T.length X.c5, .slice X.a6 X.l6 X.c6, .slice X.a7 X.R.length X.c7, .slice X.a8 X.S.length X.c8, .slice X.a9 X.l9 X.c9, .int .i64 X.er] 31)).alloc (by simp) (.cells (roadC r).toArray 56)
    first
      | exact .no hb (by have := HN.out; omega)
      | exact .last hb (by have := HN.out; omega)
set_option maxHeartbeats 2000000 in
theorem passable_any (r : Rd) (C : Option Addr) (c : Nat) (V : List Int) (w : World) (hV : IntsAt w w.heap.size C V) (hl : V.length ≤ 9223372036854775807) (hb : -1 ≤ r.by_) :
    Calls Try.prog 29 #[.agg #[.string r.nm, .int .i64 r.frm, .int .i64 r.to_, .int .i64 r.hours, .int .i64 r.flow, .int .i64 r.by_, .int .i64 r.limit], .slice C V.length c] w fun e w' => e = .returned (.bool (passB r V)) ∧ Below w.heap.size w w' := by
  have hbb := (Below.refl w.heap.size w).alloc (Nat.le_refl _) (.cells (roadC r).toArray 56)
  by_cases h1 : r.by_ = -1
  · have h1' : (r.by_ == -1) = true := by simpa using h1
    have hp : passB r V = true := by unfold passB; rw [h1']; rfl
    have Hp := Lib.hid hp
    clear hp h1
    go_enter Try.func29, Try.ntmps29
    go_wp2_with fail
    go_ret
    exact ⟨ret_bool Hp.out.symm, hbb⟩
  · have h1' : (r.by_ == -1) = false := by simpa using h1
    obtain ⟨k, hk⟩ := Int.eq_ofNat_of_zero_le (show 0 ≤ r.by_ by omega)
    have hp : passB r V = decide (V.getD k 0 ≤ r.limit) := by unfold passB; rw [h1', hk]; rfl
    have Hp := Lib.hid hp
    obtain ⟨nm, frm, to_, hours, flow, by_, limit⟩ := r
    dsimp only at hk
    subst hk
    dsimp only at *
    clear hp h1
    by_cases h2 : k < V.length
    · obtain ⟨b, off, rfl, hlt, hc⟩ := ints_at hV (List.getElem?_eq_getElem h2)
      have hx : V.getD k 0 = V[k] := by simp [List.getD_eq_getElem?_getD, h2]
      have Hx := Lib.hid hx
      clear hx
      generalize V[k] = x at hc Hx
      go_enter Try.func29, Try.ntmps29
      go_wp2_with fail
      go_ret
      exact ⟨ret_bool (by rw [Hp.out, Hx.out]), hbb⟩
    · have hx : V.getD k 0 = 0 := by rw [List.getD_eq_getElem?_getD, List.getElem?_eq_none (by omega)]; rfl
      have Hx := Lib.hid hx
      clear hx
      go_enter Try.func29, Try.ntmps29
      go_wp2_with fail
      go_ret
      exact ⟨ret_bool (by rw [Hp.out, Hx.out]), hbb⟩
/-- The volumes of an hour. -/
def VolIs (w : World) (B : Nat) (V : List Int) (e : Ending) (w' : World) : Prop := ∃ C c, e = .returned (.slice C V.length c) ∧ IntsAt w B C V ∧ V.length ≤ 9223372036854775807 ∧ w = w'
theorem volumes_any (C : Option Addr) (c : Nat) (L : List Vl) (t : Nat) (w : World) {B : Nat} (hV : VlsAt w B C L) (hl : L.length ≤ 9223372036854775807) (ht : t ≤ 9223372036854775807) :
    Calls Try.prog 39 #[.slice C L.length c, .int .i64 t] w (VolIs w B (volsAt (vsOf L) t)) := by
  by_cases h0 : L.length = 0
  · have h0' : ((L.length : Int) == 0) = true := by simp [h0]
    have hv : volsAt (vsOf L) t = [] := by
      obtain rfl := List.eq_nil_of_length_eq_zero h0; rfl
    have Hv := Lib.hid hv
    clear hv h0
    go_enter Try.func39, Try.ntmps39
    go_wp2_with fail
    go_ret
    exact ⟨none, 0, by rw [Hv.out]; rfl, by rw [Hv.out]; exact fun h => absurd h (Nat.lt_irrefl 0), by rw [Hv.out]; exact Nat.zero_le _, rfl⟩
  · have h0' : ((L.length : Int) == 0) = false := by rw [beq_eq_false_iff_ne]; omega
    obtain ⟨k, hk⟩ : ∃ k, k = min t (L.length - 1) := ⟨_, rfl⟩
    have hkl : k < L.length := by omega
    obtain ⟨b, off, rfl, hlt, hc, hi, hxl⟩ := vl_at hV (List.getElem?_eq_getElem hkl)
    have hv : volsAt (vsOf L) t = L[k].l := by
      unfold volsAt
      rw [vsOf_len, ← hk]
      exact vsOf_at (List.getElem?_eq_getElem hkl)
    have Hv := Lib.hid hv
    clear hv
    generalize L[k] = x at hc hi hxl Hv
    have hkk : (k : Int) ≤ 9223372036854775807 := by omega
    have hm : (if (L.length : Int) - 1 < (t : Int) then (L.length : Int) - 1 else (t : Int)) = (k : Int) := by split <;> omega
    have hm2 : min (t : Int) ((L.length : Int) - 1) = (k : Int) := by omega
    clear hk h0
    go_enter Try.func39, Try.ntmps39
    go_wp2_with fail
    go_ret
    exact ⟨x.a, x.c, by rw [Hv.out]; rfl, by rw [Hv.out]; exact hi, by rw [Hv.out]; exact hxl, rfl⟩
end Go.Proofs.Ytphebdmdbnpokaa
