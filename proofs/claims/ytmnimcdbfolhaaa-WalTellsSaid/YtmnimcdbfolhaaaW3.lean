/- The walks of slices.IndexFunc, ContainsFunc, DeleteFunc at the pending appends, whatever the predicate. -/
import Derived.Test.YtmnimcdbfolhaaaW2
import Derived.Deep.LoopGhost
import Derived.Shelf.Abstract
set_option linter.unusedSimpArgs false
set_option linter.unusedVariables false
namespace Go.Proofs.Ytmnimcdbfolhaaa
open Go.RowKit DK
attribute [local go_sem] alloc_drewN setCell_drewN shape_drewN
def fidx (pr : Pd → Bool) (q : List Pd) : Int := match q.findIdx? pr with
  | some k => (k : Int)
  | none => -1
theorem fidx_hit {pr : Pd → Bool} {q : List Pd} {k : Nat} {p : Pd} (hk : q[k]? = some p) (hp : pr p = true) (hb : ∀ j p, j < k → q[j]? = some p → pr p = false) : fidx pr q = (k : Int) := by
  have hlt := (List.getElem?_eq_some_iff.1 hk).1
  have : q.findIdx? pr = some k := by
    rw [List.findIdx?_eq_some_iff_getElem]
    refine ⟨hlt, by rw [(List.getElem?_eq_some_iff.1 hk).2]; exact hp, fun j hj => ?_⟩
    rw [hb j q[j] hj (List.getElem?_eq_getElem _)]; decide
  unfold fidx; rw [this]
theorem fidx_miss {pr : Pd → Bool} {q : List Pd} (hb : ∀ j p, j < q.length → q[j]? = some p → pr p = false) : fidx pr q = -1 := by
  have : q.findIdx? pr = none := by
    rw [List.findIdx?_eq_none_iff]
    intro x hx
    obtain ⟨j, hj⟩ := List.mem_iff_getElem?.1 hx
    exact hb j x (List.getElem?_eq_some_iff.1 hj).1 hj
  unfold fidx; rw [this]
theorem rowPd_set : ∀ (R : List Pd) (i : Nat) (p : Pd), i < R.length → (((rowPd R).set (i * 3) (.int .i64 p.file)).set (i * 3 + 1) (.int .i64 p.fr)).set (i * 3 + 2) (.int .i64 p.un) = rowPd (R.set i p)
  | [], i, p, h => by simp at h
  | t :: ts, 0, p, _ => by simp [rowPd, pdC]
  | t :: ts, i + 1, p, h => by
    have ih := rowPd_set ts i p (by simpa using h)
    have e : rowPd (t :: ts) = .int .i64 t.file :: .int .i64 t.fr :: .int .i64 t.un :: rowPd ts := rfl
    have e2 : rowPd ((t :: ts).set (i + 1) p) = .int .i64 t.file :: .int .i64 t.fr :: .int .i64 t.un :: rowPd (ts.set i p) := rfl
    rw [e, e2, ← ih, show (i + 1) * 3 = i * 3 + 1 + 1 + 1 by omega]
    rfl
theorem rowPd_take (R : List Pd) (i : Nat) : (rowPd R).take (i * 3) = rowPd (R.take i) := by
  induction R generalizing i with
  | nil => simp [rowPd]
  | cons t ts ih =>
    cases i with
    | zero => simp [rowPd]
    | succ i =>
      have e : rowPd (t :: ts) = .int .i64 t.file :: .int .i64 t.fr :: .int .i64 t.un :: rowPd ts := rfl
      have e2 : rowPd ((t :: ts).take (i + 1)) = .int .i64 t.file :: .int .i64 t.fr :: .int .i64 t.un :: rowPd (ts.take i) := rfl
      rw [e, e2, ← ih i, show (i + 1) * 3 = i * 3 + 1 + 1 + 1 by omega]
      rfl
theorem owns_pd {w : World} {base g n c : Nat} {R : List Pd} (h : w.ownsRow base 94 3 (.slice (some ⟨g, 0, none⟩) n c) n (rowPd R)) (hn : n = R.length) {k : Nat} {p : Pd} (hk : R[k]? = some p) :
    g < w.heap.size ∧ w.cell? ⟨g, k * 3, none⟩ = some (.int .i64 p.file) ∧ w.cell? ⟨g, k * 3 + 1, none⟩ = some (.int .i64 p.fr) ∧ w.cell? ⟨g, k * 3 + 2, none⟩ = some (.int .i64 p.un) := by
  have hlt := (List.getElem?_eq_some_iff.1 hk).1
  have c := fun j (hj : j < 3) => (h.cellAt (k * 3 + j) (by omega)).trans (rowk_get pdC_len R k p hk j hj)
  exact ⟨(h.lt g rfl).2, c 0 (by omega), c 1 (by omega), c 2 (by omega)⟩
def pdV (p : Pd) : Value := .agg #[.int .i64 p.file, .int .i64 p.fr, .int .i64 p.un]
/-- A predicate, called in whatever world has come of w by growth and by writing the row. -/
def Pred (g : Nat) (lb : Array Value) (pr : Pd → Bool) (row : Option Nat) (w : World) : Prop :=
  ∀ (wx : World) (p : Pd), w.grownBy wx row → Calls Try.prog g (#[pdV p] ++ lb) wx fun e w' => e = .returned (.bool (pr p)) ∧ Below wx.heap.size wx w'
theorem grown_below {w w1 : World} {row : Option Nat} (h : Below w.heap.size w w1) : w.grownBy w1 row := ⟨h.os, h.tape, h.output, h.size, fun k hk _ => h.block k hk⟩
set_option maxRecDepth 100000 in
set_option maxHeartbeats 4000000 in
theorem index_any (g : Nat) (lb : Array Value) (pr : Pd → Bool) (base : Nat) (o : Option Nat) (c : Nat) (q : List Pd) (w : World) (eg : ∀ args w, (callFunc g args).run Try.prog w = .ok (.enter g args) w)
    (hown : w.ownsRow base 94 3 (.slice (ad o) q.length c) q.length (rowPd q)) (hq : q.length ≤ 1000000) (hp : Pred g lb pr none w) :
    Calls Try.prog 82 #[.slice (ad o) q.length c, .func (.func g) #[] lb] w fun e w' => e = .returned (.int .i64 (fidx pr q)) ∧ Below w.heap.size w w' := by
  obtain ⟨nq, hnq⟩ : ∃ n, Hid (n = q.length) := ⟨_, rfl⟩
  replace hp := Lib.hid hp
  rw [← hnq.out] at hown hq ⊢
  go_enter Try.func82, Try.ntmps82
  replace hown := Lib.hid hown
  go_wp2_with fail
  go_loopw [8] (fun i wr => ∃ k : Nat, k ≤ nq ∧ i = .int .i64 k ∧ Below w.heap.size w wr ∧ Hid (∀ j p, j < k → q[j]? = some p → pr p = false)) (fun i _ => nq - (intOf i).toNat)
  case atStart => exact ⟨0, Nat.zero_le _, rfl, Below.refl _ _, fun j p hj => absurd hj (by omega)⟩
  case round =>
    obtain ⟨k, hk, rfl, hB, hno⟩ := hrel
    by_cases hlt : k < nq
    · obtain ⟨p, hpk⟩ : ∃ p, q[k]? = some p := ⟨_, List.getElem?_eq_getElem (by have := hnq.out; omega)⟩
      obtain ⟨gg, rfl⟩ := ad_addr hown.out (by omega)
      obtain ⟨hg, p0, p1, p2⟩ := owns_pd (row_below hown.out hB) hnq.out hpk
      have hcall := hp.out wr p (grown_below hB)
      unfold pdV at hcall
      replace hcall := Lib.hid hcall
      replace hpk := Lib.hid hpk
      have hki : (0 : Int) ≤ (k : Int) ∧ (k : Int) < (nq : Int) := by omega
      rw [show ad (some gg) = some ⟨gg, 0, none⟩ from rfl]
      cases hpr : pr p
      · have hpr' := Lib.hid hpr
        rw [hpr] at hcall
        clear hpr
        go_wp2_with (go_at_fn g; refine hcall.out.mono ?_; rintro e w1 ⟨rfl, hb1⟩)
        go_roundw
        case rel =>
          refine ⟨k + 1, by omega, by go_num, hB.trans (hb1.mono hB.size), fun j p' hj hj' => ?_⟩
          by_cases e : j = k
          · subst e; rw [hpk.out] at hj'; injection hj' with e; rw [← e]; exact hpr'.out
          · exact hno.out j p' (by omega) hj'
        case measure => simp [intOf]; omega
      · have hpr' := Lib.hid hpr
        rw [hpr] at hcall
        clear hpr
        go_wp2_with (go_at_fn g; refine hcall.out.mono ?_; rintro e w1 ⟨rfl, hb1⟩)
        go_ret
        exact ⟨by rw [fidx_hit hpk.out hpr'.out hno.out]; rfl, hB.trans (hb1.mono hB.size)⟩
    · obtain rfl : k = nq := by omega
      go_wp2_with fail
      go_ret
      exact ⟨by rw [fidx_miss (by rw [← hnq.out]; exact hno.out)]; rfl, hB⟩
theorem contains_any (g : Nat) (lb : Array Value) (pr : Pd → Bool) (base : Nat) (o : Option Nat) (c : Nat) (q : List Pd) (w : World) (eg : ∀ args w, (callFunc g args).run Try.prog w = .ok (.enter g args) w)
    (hown : w.ownsRow base 94 3 (.slice (ad o) q.length c) q.length (rowPd q)) (hq : q.length ≤ 1000000) (hp : Pred g lb pr none w) :
    Calls Try.prog 71 #[.slice (ad o) q.length c, .func (.func g) #[] lb] w fun e w' => e = .returned (.bool (q.any pr)) ∧ Below w.heap.size w w' := by
  have K := Lib.hid (index_any g lb pr base o c q w eg hown hq hp)
  clear hown hp eg
  have hv : Hid ((decide ((0 : Int) ≤ fidx pr q)) = q.any pr) := by
    show _ = _
    rw [Bool.eq_iff_iff, decide_eq_true_eq]
    unfold fidx
    cases h : q.findIdx? pr with
    | none =>
      rw [List.findIdx?_eq_none_iff] at h
      simp only [List.any_eq_true]
      refine ⟨fun h => by omega, fun ⟨x, hx, hx2⟩ => ?_⟩
      rw [h x hx] at hx2; cases hx2
    | some k =>
      obtain ⟨hlt, h1, _⟩ := List.findIdx?_eq_some_iff_getElem.1 h
      refine ⟨fun _ => List.any_eq_true.2 ⟨_, List.getElem_mem hlt, h1⟩, fun _ => by simp⟩
  generalize fidx pr q = fi at K hv
  go_enter Try.func71, Try.ntmps71
  go_wp2_with (go_at_call 82; (with_reducible refine K.out.mono ?_); rintro e w1 ⟨rfl, hb1⟩)
  go_ret
  exact ⟨by rw [← hv.out]; rfl, hb1⟩
end Go.Proofs.Ytmnimcdbfolhaaa
