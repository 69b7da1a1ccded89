/- Walks of Same, same, few, booked. (Printed by gen_w14.py.) -/
import Derived.Deep.Cut
import Derived.Test.YtminphldifncaaaDoorW11
import Derived.Test.YtminphldifncaaaDoorW7
set_option linter.unusedSimpArgs false
set_option linter.unusedVariables false
namespace Go.Proofs.YtminphldifncaaaDoor
open Go.RowKit LG
attribute [local go_sem] alloc_drewN setCell_drewN shape_drewN

def SameL {α : Type} [DecidableEq α] (A B : List α) : Bool := decide (A = B)
theorem sameL_len {α : Type} [DecidableEq α] {A B : List α} (h : A.length ≠ B.length) : SameL A B = false := decide_eq_false (fun e => h (by rw [e]))
theorem sameL_no {α : Type} [DecidableEq α] {A B : List α} {k : Nat} {x y : α} (h1 : A[k]? = some x) (h2 : B[k]? = some y) (h : x ≠ y) : SameL A B = false :=
  decide_eq_false (fun e => h (by rw [e, h2] at h1; exact (Option.some.inj h1).symm))
theorem sameL_yes {α : Type} [DecidableEq α] {A B : List α} (hl : A.length = B.length) (h : A.take A.length = B.take A.length) : SameL A B = true := by
  rw [List.take_length, hl, List.take_length] at h; exact decide_eq_true h
theorem take_both {α : Type} {A B : List α} {k : Nat} {x : α} (h : A.take k = B.take k) (h1 : A[k]? = some x) (h2 : B[k]? = some x) : A.take (k + 1) = B.take (k + 1) := by
  rw [List.take_add_one, List.take_add_one, h, h1, h2]
def SameIs {α : Type} [DecidableEq α] (A B : List α) (w : World) (e : Ending) (w' : World) : Prop := e = .returned (.bool (SameL A B)) ∧ ∃ n, w' = w.drewN n
set_option maxRecDepth 100000 in
set_option maxHeartbeats 4000000 in
theorem rsame_any (A E : List Et) (C D : Option Addr) (cc dc : Nat) (w : World) {B : Nat} (hC : EntsAt w B C A) (hD : EntsAt w B D E) (hl : A.length ≤ 9223372036854775807) (hl2 : E.length ≤ 9223372036854775807) :
    Calls Tryd.prog 13 #[.slice C A.length cc, .slice D E.length dc] w (SameIs A E w) := by
  by_cases hle : A.length = E.length
  case neg =>
    have Hn := Lib.hid (sameL_len hle)
    have hl1 : (A.length != E.length) = true := by simp; exact hle
    have hl2 : ((A.length : Int) != (E.length : Int)) = true := by simp; omega
    go_enter Tryd.func13, Tryd.ntmps13
    go_wp2_with fail
    go_ret
    exact ⟨ret_bool Hn.out.symm, 0, rfl⟩
  have Hl := Lib.hid hle
  rw [← hle]
  clear hle hl2
  go_enter Tryd.func13, Tryd.ntmps13
  go_wp2_with fail
  go_loopw [5] (fun i wr => ∃ k m : Nat, k ≤ A.length ∧ i = .int .i64 k ∧ Hid (A.take k = E.take k) ∧ wr = w.drewN m) (fun i _ => A.length - (intOf i).toNat)
  case atStart => exact ⟨0, 0, Nat.zero_le _, rfl, rfl, rfl⟩
  case round =>
    obtain ⟨k, m, hk, rfl, hm, hwr⟩ := hrel
    subst hwr
    by_cases hlt : k < A.length
    · obtain ⟨x, hx⟩ : ∃ x, A[k]? = some x := ⟨_, List.getElem?_eq_getElem hlt⟩
      obtain ⟨y, hy⟩ : ∃ y, E[k]? = some y := ⟨_, List.getElem?_eq_getElem (by have := Hl.out; omega)⟩
      obtain ⟨b, off, rfl, hb, c0, c1, c2, c3, c4, c5, c6⟩ := hC.at_ hx
      obtain ⟨b2, off2, rfl, hb2, d0, d1, d2, d3, d4, d5, d6⟩ := hD.at_ hy
      have hk0 : 0 ≤ (k : Int) ∧ (k : Int) < (A.length : Int) := by omega
      by_cases g : x = y
      · subst g
        have hN : Hid (A.take (k + 1) = E.take (k + 1)) := take_both hm.out hx hy
        clear hx hy
        go_upto_region 6 with fail
        go_quiet (fail)
        go_wp2_with fail
        go_roundw
        case rel => exact ⟨k + 1, _, by omega, by go_num, hN, rfl⟩
        case measure => simp [intOf]; omega
      · by_cases e0 : x.day = y.day
        case neg =>
          have hN : Hid (SameL A E = false) := sameL_no hx hy g
          have q0 : (x.day == y.day) = false := by simpa using e0
          clear e0
          clear hx hy g
          go_upto_region 6 with fail
          go_quiet (fail)
          go_wp2_with fail
          go_ret
          exact ⟨ret_bool hN.out.symm, _, World.drewN_drewN _ _ _⟩
        by_cases e1 : x.known = y.known
        case neg =>
          have hN : Hid (SameL A E = false) := sameL_no hx hy g
          have q0 : (x.day == y.day) = true := by simpa using e0
          have q1 : (x.known == y.known) = false := by simpa using e1
          clear e0
          clear e1
          clear hx hy g
          go_upto_region 6 with fail
          go_quiet (fail)
          go_wp2_with fail
          go_ret
          exact ⟨ret_bool hN.out.symm, _, World.drewN_drewN _ _ _⟩
        by_cases e2 : x.owner = y.owner
        case neg =>
          have hN : Hid (SameL A E = false) := sameL_no hx hy g
          have q0 : (x.day == y.day) = true := by simpa using e0
          have q1 : (x.known == y.known) = true := by simpa using e1
          have q2 : (x.owner == y.owner) = false := by simpa using e2
          clear e0
          clear e1
          clear e2
          clear hx hy g
          go_upto_region 6 with fail
          go_quiet (fail)
          go_wp2_with fail
          go_ret
          exact ⟨ret_bool hN.out.symm, _, World.drewN_drewN _ _ _⟩
        by_cases e3 : x.place = y.place
        case neg =>
          have hN : Hid (SameL A E = false) := sameL_no hx hy g
          have q0 : (x.day == y.day) = true := by simpa using e0
          have q1 : (x.known == y.known) = true := by simpa using e1
          have q2 : (x.owner == y.owner) = true := by simpa using e2
          have q3 : (x.place == y.place) = false := by simpa using e3
          clear e0
          clear e1
          clear e2
          clear e3
          clear hx hy g
          go_upto_region 6 with fail
          go_quiet (fail)
          go_wp2_with fail
          go_ret
          exact ⟨ret_bool hN.out.symm, _, World.drewN_drewN _ _ _⟩
        by_cases e4 : x.litres = y.litres
        case neg =>
          have hN : Hid (SameL A E = false) := sameL_no hx hy g
          have q0 : (x.day == y.day) = true := by simpa using e0
          have q1 : (x.known == y.known) = true := by simpa using e1
          have q2 : (x.owner == y.owner) = true := by simpa using e2
          have q3 : (x.place == y.place) = true := by simpa using e3
          have q4 : (x.litres == y.litres) = false := by simpa using e4
          clear e0
          clear e1
          clear e2
          clear e3
          clear e4
          clear hx hy g
          go_upto_region 6 with fail
          go_quiet (fail)
          go_wp2_with fail
          go_ret
          exact ⟨ret_bool hN.out.symm, _, World.drewN_drewN _ _ _⟩
        by_cases e5 : x.why = y.why
        case neg =>
          have hN : Hid (SameL A E = false) := sameL_no hx hy g
          have q0 : (x.day == y.day) = true := by simpa using e0
          have q1 : (x.known == y.known) = true := by simpa using e1
          have q2 : (x.owner == y.owner) = true := by simpa using e2
          have q3 : (x.place == y.place) = true := by simpa using e3
          have q4 : (x.litres == y.litres) = true := by simpa using e4
          have q5 : (x.why == y.why) = false := by simpa using e5
          clear e0
          clear e1
          clear e2
          clear e3
          clear e4
          clear e5
          clear hx hy g
          go_upto_region 6 with fail
          go_quiet (fail)
          go_wp2_with fail
          go_ret
          exact ⟨ret_bool hN.out.symm, _, World.drewN_drewN _ _ _⟩
        by_cases e6 : x.ref = y.ref
        case neg =>
          have hN : Hid (SameL A E = false) := sameL_no hx hy g
          have q0 : (x.day == y.day) = true := by simpa using e0
          have q1 : (x.known == y.known) = true := by simpa using e1
          have q2 : (x.owner == y.owner) = true := by simpa using e2
          have q3 : (x.place == y.place) = true := by simpa using e3
          have q4 : (x.litres == y.litres) = true := by simpa using e4
          have q5 : (x.why == y.why) = true := by simpa using e5
          have q6 : (x.ref == y.ref) = false := by simpa using e6
          clear e0
          clear e1
          clear e2
          clear e3
          clear e4
          clear e5
          clear e6
          clear hx hy g
          go_upto_region 6 with fail
          go_quiet (fail)
          go_wp2_with fail
          go_ret
          exact ⟨ret_bool hN.out.symm, _, World.drewN_drewN _ _ _⟩
        exact absurd (by cases x; cases y; simp_all) g
    · have hke : k = A.length := by omega
      subst hke
      have hN : Hid (SameL A E = true) := sameL_yes Hl.out hm.out
      go_wp2_with fail
      go_ret
      exact ⟨ret_bool hN.out.symm, _, rfl⟩

/-- A slice of postings. -/
def PostsAt (w : World) (B : Nat) (C : Option Addr) (ps : List (List Et)) : Prop :=
  0 < ps.length → ∃ b off, C = some ⟨b, off, none⟩ ∧ b < B ∧ ∀ k p, ps[k]? = some p → ∃ D dc, w.cell? ⟨b, off + k, none⟩ = some (.slice D p.length dc) ∧ EntsAt w B D p
theorem PostsAt.below {w w' : World} {B : Nat} {C : Option Addr} {ps : List (List Et)} (h : PostsAt w B C ps) (hb : Below B w w') : PostsAt w' B C ps := fun hl => by
  obtain ⟨b, off, e, hlt, hc⟩ := h hl
  refine ⟨b, off, e, hlt, fun k p hk => ?_⟩
  obtain ⟨D, dc, h1, h2⟩ := hc k p hk
  exact ⟨D, dc, (hb.cell (p := ⟨b, _, none⟩) hlt).trans h1, h2.below hb⟩
theorem PostsAt.at_ {w : World} {B : Nat} {C : Option Addr} {ps : List (List Et)} (h : PostsAt w B C ps) {k : Nat} {p : List Et} (hk : ps[k]? = some p) : ∃ b off D dc, C = some ⟨b, off, none⟩ ∧ b < B ∧ w.cell? ⟨b, off + k, none⟩ = some (.slice D p.length dc) ∧ EntsAt w B D p := by
  have hlt := (List.getElem?_eq_some_iff.1 hk).1
  obtain ⟨b, off, e, hb, hc⟩ := h (by omega)
  obtain ⟨D, dc, h1, h2⟩ := hc k p hk
  exact ⟨b, off, D, dc, e, hb, h1, h2⟩
def fewB (ps : List (List Et)) : Bool := ps.all (fun p => decide (p.length ≤ 8)) && decide (ps.length ≤ 12)
def bookStep (l p : List Et) : List Et := if (postR l p).2 = 0 then (postR l p).1 else l
def bookedR (ps : List (List Et)) : List Et := ps.foldl bookStep []
def bookT (ps : List (List Et)) (k : Nat) : List Et := bookedR (ps.take k)
theorem bookT_succ {ps : List (List Et)} {k : Nat} {p : List Et} (h : ps[k]? = some p) : bookT ps (k + 1) = bookStep (bookT ps k) p := by
  unfold bookT bookedR; rw [List.take_add_one, h, List.foldl_append]; rfl
theorem postR_mem {l p : List Et} : ∀ e ∈ (postR l p).1, e ∈ l ∨ e ∈ p := fun e h => by
  unfold postR at h
  split at h
  · cases h
  · split at h
    · cases h
    · split at h
      · cases h
      · exact List.mem_append.1 h
theorem postR_len {l p : List Et} : (postR l p).1.length ≤ l.length + p.length := by
  unfold postR
  split
  · simp
  · split
    · simp
    · split
      · simp
      · simp
theorem bookT_ok {ps : List (List Et)} (h8 : ∀ p ∈ ps, p.length ≤ 8) : ∀ k, k ≤ ps.length → (bookT ps k).length ≤ 8 * k ∧ ∀ e ∈ bookT ps k, ∃ p ∈ ps, e ∈ p
  | 0, _ => by simp [bookT, bookedR]
  | k + 1, hk => by
    obtain ⟨a, b⟩ := bookT_ok h8 k (by omega)
    obtain ⟨p, hp⟩ : ∃ p, ps[k]? = some p := ⟨_, List.getElem?_eq_getElem (by omega)⟩
    have hpm := List.mem_of_getElem? hp
    have := h8 p hpm
    have hl := postR_len (l := bookT ps k) (p := p)
    rw [bookT_succ hp]
    unfold bookStep
    split
    · exact ⟨by omega, fun e he => (postR_mem e he).elim (b e) (fun h => ⟨p, hpm, h⟩)⟩
    · exact ⟨by omega, b⟩
theorem few_len {ps : List (List Et)} (h : fewB ps = true) : (∀ p ∈ ps, p.length ≤ 8) ∧ ps.length ≤ 12 := by
  unfold fewB at h
  simp only [Bool.and_eq_true, List.all_eq_true, decide_eq_true_eq] at h
  exact h
def PsIn (ps : List (List Et)) : Prop := ∀ p ∈ ps, LitsIn p
theorem booked_in {ps : List (List Et)} (h8 : ∀ p ∈ ps, p.length ≤ 8) (hI : PsIn ps) : LitsIn (bookedR ps) := fun e he => by
  have h := (bookT_ok h8 ps.length (Nat.le_refl _)).2
  unfold bookT at h
  rw [List.take_length] at h
  obtain ⟨p, h1, h2⟩ := h e he
  exact hI p h1 e h2
theorem booked_len {ps : List (List Et)} (h8 : ∀ p ∈ ps, p.length ≤ 8) (h12 : ps.length ≤ 12) : (bookedR ps).length ≤ 96 := by
  have h := (bookT_ok h8 ps.length (Nat.le_refl _)).1
  unfold bookT at h
  rw [List.take_length] at h
  omega
end Go.Proofs.YtminphldifncaaaDoor
