/- Plain laws of the disk: what calls make of states that are up and unarmed; what a crash leaves. -/
import Derived.Test.YtmnimcdbfolhaaaDP
set_option linter.unusedSimpArgs false
set_option linter.unusedVariables false
namespace Go.Proofs.Ytmnimcdbfolhaaa
namespace DK
section
variable {s : St}
/-- Up, no crash scheduled, no flush lost. -/
structure Up (s : St) : Prop where
  down : s.down = false
  armed : s.armed = 0
  lost : s.lost = 0
theorem Up.zero : Up St.zero := ⟨rfl, rfl, rfl⟩
theorem dueS_0 (h : s.armed = 0) : dueS s = s := by cases s; simp only at h; subst h; rfl
theorem isDue_0 (h : s.armed = 0) : isDue s = false := by unfold isDue; rw [h]; rfl
/-- What waits behind an append. -/
def pend (f n : Nat) (x : Bts) : List Pd := if x = [] then [] else [⟨f, n, n + x.length⟩]
theorem append_up (h : Up s) {f : Nat} (hf : f < 8) (x : Bts) (hl : (s.data f).length + x.length ≤ 16777216) :
    append s f x = (0, { s with data := upd s.data f (s.data f ++ x), q := s.q ++ pend f (s.data f).length x }) := by
  have hn : num (f : Int) = true := num_iff.2 ⟨by omega, by omega⟩
  unfold append
  rw [if_neg (by rw [h.down]; exact Bool.false_ne_true), if_neg (by rw [isDue_0 h.armed]; exact Bool.false_ne_true), dueS_0 h.armed]
  have e1 : addE s f x.length = 0 := by
    unfold addE; rw [hn, Int.toNat_natCast]; simp only [if_true]; rw [if_neg (by omega)]
  rw [e1]
  unfold addS pend
  rw [hn, Int.toNat_natCast]
  by_cases hx : x = []
  · subst hx; rw [if_neg (fun q => q.2.2 rfl), if_pos rfl, List.append_nil, List.append_nil, upd_self]
  · rw [if_pos ⟨rfl, hl, hx⟩, if_neg hx]
theorem flush_up (h : Up s) {f : Nat} (hf : f < 8) : flush s f = (0, flushS s f) := by
  have hn : num (f : Int) = true := num_iff.2 ⟨by omega, by omega⟩
  unfold flush
  rw [h.down, isDue_0 h.armed, dueS_0 h.armed, hn, h.lost, Int.toNat_natCast]; rfl
theorem turn_up (h : Up s) {f g : Nat} (hf : f < 8) (hg : g < 8) (hne : f ≠ g) : turn s f g = if s.q.any (fun p => decide (p.file = g)) then (10, s) else (0, turnS s f g) := by
  have hn : num (f : Int) = true := num_iff.2 ⟨by omega, by omega⟩
  have hn2 : num (g : Int) = true := num_iff.2 ⟨by omega, by omega⟩
  unfold turn
  rw [if_neg (by rw [h.down]; exact Bool.false_ne_true), if_neg (by rw [isDue_0 h.armed]; exact Bool.false_ne_true), dueS_0 h.armed, if_pos ⟨hn, hn2, by omega⟩, Int.toNat_natCast, Int.toNat_natCast]
theorem Up.append (h : Up s) (f : Int) (x : Bts) : Up (append s f x).2 := by
  unfold DK.append
  rw [h.down, isDue_0 h.armed, dueS_0 h.armed]
  simp only [Bool.false_eq_true, if_false]
  unfold addS; split
  · exact ⟨h.down, h.armed, h.lost⟩
  · exact h
theorem Up.flush (h : Up s) (f : Int) : Up (flush s f).2 := by
  unfold DK.flush
  rw [h.down, isDue_0 h.armed, dueS_0 h.armed, h.lost]
  simp only [Bool.false_eq_true, if_false]
  split
  · exact ⟨h.down, h.armed, h.lost⟩
  · exact h
theorem Up.turn (h : Up s) (f g : Int) : Up (turn s f g).2 := by
  unfold DK.turn
  rw [h.down, isDue_0 h.armed, dueS_0 h.armed]
  simp only [Bool.false_eq_true, if_false]
  split
  · split
    · exact h
    · exact ⟨h.down, h.armed, h.lost⟩
  · exact h
/-- A crash leaves no file longer. -/
theorem crash_le (h : Ok s) (keep : List Int) {f : Nat} (hf : f < 8) : ((crash s keep).data f).length ≤ (s.data f).length := by
  unfold crash; split
  · exact Nat.le_refl _
  · show (List.take _ _).length ≤ _
    rw [List.length_take, crD_len h keep _ f hf]; omega
theorem crD_other (keep : List Int) {f : Nat} (hq : ∀ p ∈ s.q, p.file ≠ f) (k : Nat) : crD keep s.q s.data k f = s.data f := by
  induction k with
  | zero => rfl
  | succ k ih =>
    cases h : s.q[k]? with
    | none => simp only [crD, h]; exact ih
    | some p =>
      rw [crD_at h, upd_other _ _ (Ne.symm (hq p (List.mem_of_getElem? h)))]; exact ih
theorem crU_other (keep : List Int) {f : Nat} (hq : ∀ p ∈ s.q, p.file ≠ f) (k : Nat) : crU keep s.q s.dur k f = s.dur f := by
  induction k with
  | zero => rfl
  | succ k ih =>
    cases h : s.q[k]? with
    | none => simp only [crU, h]; exact ih
    | some p =>
      rw [crU_at h]
      split
      · rw [upd_other _ _ (Ne.symm (hq p (List.mem_of_getElem? h)))]; exact ih
      · exact ih
/-- A file without pending appends keeps its durable bytes. -/
theorem crash_quiet (hd : s.down = false) (keep : List Int) {f : Nat} (hq : ∀ p ∈ s.q, p.file ≠ f) : (crash s keep).data f = (s.data f).take (s.dur f) := by
  unfold crash; rw [hd]
  show List.take (crU keep s.q s.dur s.q.length f) (crD keep s.q s.data s.q.length f) = _
  rw [crU_other keep hq, crD_other keep hq]
theorem crash_down (keep : List Int) : (crash s keep).down = true := by
  unfold crash; cases h : s.down
  · rfl
  · exact h
theorem crash_again (keep : List Int) (h : s.down = true) : crash s keep = s := by unfold crash; rw [h]; rfl
theorem read_up (hd : s.down = false) {f : Nat} (hf : f < 8) : read s f = (s.data f, 0) := by
  have hn : num (f : Int) = true := num_iff.2 ⟨by omega, by omega⟩
  unfold read; rw [hd, hn, Int.toNat_natCast]; rfl
theorem size_num {f : Nat} (hf : f < 8) : size s f = ((s.data f).length : Int) := by
  have hn : num (f : Int) = true := num_iff.2 ⟨by omega, by omega⟩
  unfold size; rw [hn, Int.toNat_natCast]; rfl
end
/-! Turns -/
section
variable (a b : Bts)
def tu1 : St := (append St.zero (3 : Nat) a).2
def tu2 : St := (flush (tu1 a) (3 : Nat)).2
def tu3 : St := (append (tu2 a) (4 : Nat) b).2
def tu4 : St := (flush (tu3 a b) (4 : Nat)).2
theorem tu1_up : Up (tu1 a) := Up.zero.append _ _
theorem tu2_up : Up (tu2 a) := (tu1_up a).flush _
theorem tu3_up : Up (tu3 a b) := (tu2_up a).append _ _
theorem tu3_k : Ok (tu3 a b) := (((Ok.zero.append (3 : Nat) a).flush (3 : Nat)).append (4 : Nat) b)
theorem tu4_up : Up (tu4 a b) := (tu3_up a b).flush _
variable {a b} (ha : a.length ≤ 50000) (hb : b.length ≤ 50000)
include ha
theorem tu1_ok : (append St.zero (3 : Nat) a).1 = 0 := by
  rw [append_up Up.zero (by omega) a (by show 0 + _ ≤ _; omega)]
theorem tu1_d : (tu1 a).data = upd (fun _ => []) 3 a := by
  unfold tu1; rw [append_up Up.zero (by omega) a (by show 0 + _ ≤ _; omega)]; rfl
theorem tu1_q : (tu1 a).q = pend 3 0 a := by
  unfold tu1; rw [append_up Up.zero (by omega) a (by show 0 + _ ≤ _; omega)]; rfl
theorem tu1_u : (tu1 a).dur = fun _ => 0 := by
  unfold tu1; rw [append_up Up.zero (by omega) a (by show 0 + _ ≤ _; omega)]; rfl
omit ha in
theorem tu2_ok : (flush (tu1 a) (3 : Nat)).1 = 0 := by rw [flush_up (tu1_up a) (by omega)]
omit ha in
theorem tu2_s : tu2 a = flushS (tu1 a) 3 := by unfold tu2; rw [flush_up (tu1_up a) (by omega)]
theorem tu2_d : (tu2 a).data = upd (fun _ => []) 3 a := by rw [tu2_s]; exact tu1_d ha
theorem tu2_u : (tu2 a).dur = upd (fun _ => 0) 3 a.length := by rw [tu2_s]; show upd (tu1 a).dur 3 ((tu1 a).data 3).length = _; rw [tu1_u ha, tu1_d ha]; rfl
theorem tu2_q : (tu2 a).q = [] := by
  rw [tu2_s]; show List.filter _ (tu1 a).q = _; rw [tu1_q ha]; unfold pend; split <;> rfl
include hb
theorem tu3_all : append (tu2 a) (4 : Nat) b = (0, { (tu2 a) with data := upd (upd (fun _ => []) 3 a) 4 b, q := pend 4 0 b }) := by
  rw [append_up (tu2_up a) (by omega) b (by rw [tu2_d ha]; show 0 + _ ≤ _; omega), tu2_d ha, tu2_q ha]; rfl
theorem tu3_d : (tu3 a b).data = upd (upd (fun _ => []) 3 a) 4 b := by unfold tu3; rw [tu3_all ha hb]
theorem tu3_q : (tu3 a b).q = pend 4 0 b := by unfold tu3; rw [tu3_all ha hb]
theorem tu3_u : (tu3 a b).dur = upd (fun _ => 0) 3 a.length := by unfold tu3; rw [tu3_all ha hb]; exact tu2_u ha
omit ha hb in
theorem tu4_s : tu4 a b = flushS (tu3 a b) 4 := by unfold tu4; rw [flush_up (tu3_up a b) (by omega)]
theorem tu4_d : (tu4 a b).data = upd (upd (fun _ => []) 3 a) 4 b := by rw [tu4_s]; exact tu3_d ha hb
theorem tu4_u : (tu4 a b).dur = upd (upd (fun _ => 0) 3 a.length) 4 b.length := by rw [tu4_s]; show upd (tu3 a b).dur 4 ((tu3 a b).data 4).length = _; rw [tu3_u ha hb, tu3_d ha hb]; rfl
theorem tu4_q : (tu4 a b).q = [] := by
  rw [tu4_s]; show List.filter _ (tu3 a b).q = _; rw [tu3_q ha hb]; unfold pend; split <;> rfl
omit hb ha
theorem turn_ok {s : St} (h : Up s) (hq : s.q = []) : turn s (3 : Nat) (4 : Nat) = (0, turnS s 3 4) := by
  rw [turn_up h (by omega) (by omega) (by omega), hq]; rfl
theorem turn_late {s : St} (h : Up s) (hb : b ≠ []) (hq : s.q = pend 4 0 b) : turn s (3 : Nat) (4 : Nat) = (10, s) := by
  rw [turn_up h (by omega) (by omega) (by omega), hq]; unfold pend; rw [if_neg hb]; rfl
/-- Behind a Turn that was accepted, and a crash, the file has the other's bytes that were durable. -/
theorem turned3 {s : St} (h : Up s) (hq : s.q = []) (keep : List Int) : (start (crash (turnS s 3 4) keep)).data 3 = (s.data 4).take (s.dur 4) := by
  show (crash (turnS s 3 4) keep).data 3 = _
  rw [crash_quiet (s := turnS s 3 4) h.down keep (fun p hp => by
    have : p ∈ s.q.filter _ := hp
    rw [hq] at this; cases this)]; rfl
theorem turned4 {s : St} (h : Up s) (hq : s.q = []) (keep : List Int) : (start (crash (turnS s 3 4) keep)).data 4 = [] := by
  show (crash (turnS s 3 4) keep).data 4 = _
  rw [crash_quiet (s := turnS s 3 4) h.down keep (fun p hp => by
    have : p ∈ s.q.filter _ := hp
    rw [hq] at this; cases this)]; rfl
end
end DK
end Go.Proofs.Ytmnimcdbfolhaaa
