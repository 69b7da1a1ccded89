/- Plain law of DiskReorders: what a crash leaves of three appends. -/
import Derived.Test.YtfohojkclfofmaaLP1
set_option linter.unusedSimpArgs false
set_option linter.unusedVariables false
namespace Go.Proofs.Ytfohojkclfofmaa
namespace DK
def clamp (k : Int) (n : Nat) : Nat := (max 0 (min k n)).toNat
theorem clamp_le (k : Int) (n : Nat) : clamp k n ≤ n := by unfold clamp; omega
theorem kept_at {keep : List Int} {i : Nat} {k : Int} (h : keep[i]? = some k) (p : Pd) : kept keep i p = (max 0 (min k ((p.un : Int) - p.fr))).toNat := by unfold kept; rw [h]
section
variable (a b c : Bts) (k0 k1 k2 : Int)
def re1 : St := (append St.zero (5 : Nat) a).2
def re2 : St := (append (re1 a) (6 : Nat) c).2
def re3 : St := (append (re2 a c) (5 : Nat) b).2
def re4 : St := crash (re3 a b c) [k0, k1, k2]
def re5 : St := crash (re4 a b c k0 k1 k2) [100000, 100000, 100000]
def re6 : St := start (re5 a b c k0 k1 k2)
def re7 : St := crash (re6 a b c k0 k1 k2) []
def re8 : St := start (re7 a b c k0 k1 k2)
theorem re1_up : Up (re1 a) := Up.zero.append _ _
theorem re2_up : Up (re2 a c) := (re1_up a).append _ _
theorem re3_up : Up (re3 a b c) := (re2_up a c).append _ _
variable {a b c k0 k1 k2} (ha : a.length + b.length + c.length ≤ 60000)
include ha
theorem re1_all : append St.zero (5 : Nat) a = (0, { St.zero with data := upd (fun _ => []) 5 a, q := pend 5 0 a }) := by
  rw [append_up Up.zero (by omega) a (by show 0 + _ ≤ _; omega)]; rfl
theorem re1_s : re1 a = { St.zero with data := upd (fun _ => []) 5 a, q := pend 5 0 a } := by unfold re1; rw [re1_all ha]
theorem re2_all : append (re1 a) (6 : Nat) c = (0, { St.zero with data := upd (upd (fun _ => []) 5 a) 6 c, q := pend 5 0 a ++ pend 6 0 c }) := by
  rw [append_up (re1_up a) (by omega) c (by rw [re1_s ha]; show 0 + _ ≤ _; omega), re1_s ha]; rfl
theorem re2_s : re2 a c = { St.zero with data := upd (upd (fun _ => []) 5 a) 6 c, q := pend 5 0 a ++ pend 6 0 c } := by unfold re2; rw [re2_all ha]
theorem re3_all : append (re2 a c) (5 : Nat) b = (0, { St.zero with data := upd (upd (upd (fun _ => []) 5 a) 6 c) 5 (a ++ b), q := pend 5 0 a ++ pend 6 0 c ++ pend 5 a.length b }) := by
  rw [append_up (re2_up a c) (by omega) b (by rw [re2_s ha]; show a.length + _ ≤ _; omega), re2_s ha]; rfl
theorem re3_s : re3 a b c = { St.zero with data := upd (upd (upd (fun _ => []) 5 a) 6 c) 5 (a ++ b), q := pend 5 0 a ++ pend 6 0 c ++ pend 5 a.length b } := by unfold re3; rw [re3_all ha]
variable (na : a ≠ []) (nb : b ≠ []) (nc : c ≠ [])
include na nb nc
theorem re3_q : (re3 a b c).q = [⟨5, 0, a.length⟩, ⟨6, 0, c.length⟩, ⟨5, a.length, a.length + b.length⟩] := by
  rw [re3_s ha]; unfold pend; rw [if_neg na, if_neg nb, if_neg nc]; simp
theorem re3_d : crD [k0, k1, k2] (re3 a b c).q (re3 a b c).data 3 = upd (upd (upd (re3 a b c).data 5 (zer (a ++ b) (clamp k0 a.length) a.length)) 6 (zer c (clamp k1 c.length) c.length)) 5 (zer (zer (a ++ b) (clamp k0 a.length) a.length) (a.length + clamp k2 b.length) (a.length + b.length)) := by
  have e0 : kept [k0, k1, k2] 0 ⟨5, 0, a.length⟩ = clamp k0 a.length := by rw [kept_at rfl]; unfold clamp; simp
  have e1 : kept [k0, k1, k2] 1 ⟨6, 0, c.length⟩ = clamp k1 c.length := by rw [kept_at rfl]; unfold clamp; simp
  have e2 : kept [k0, k1, k2] 2 ⟨5, a.length, a.length + b.length⟩ = clamp k2 b.length := by
    rw [kept_at rfl]; unfold clamp; rw [show ((a.length + b.length : Nat) : Int) - (a.length : Nat) = (b.length : Int) by omega]
  rw [re3_q ha na nb nc]
  rw [crD_at (k := 2) (p := ⟨5, a.length, a.length + b.length⟩) rfl, crD_at (k := 1) (p := ⟨6, 0, c.length⟩) rfl, crD_at (k := 0) (p := ⟨5, 0, a.length⟩) rfl, e0, e1, e2]
  simp only [crD]
  have f5 : (re3 a b c).data 5 = a ++ b := by rw [re3_s ha]; rfl
  have f6 : (re3 a b c).data 6 = c := by rw [re3_s ha]; rfl
  simp only [upd_same, upd_other _ _ (show (6 : Nat) ≠ 5 by omega), upd_other _ _ (show (5 : Nat) ≠ 6 by omega), f5, f6, Nat.zero_add]
theorem re3_u : crU [k0, k1, k2] (re3 a b c).q (re3 a b c).dur 3 5 = (if 0 < clamp k2 b.length then a.length + clamp k2 b.length else clamp k0 a.length) ∧ crU [k0, k1, k2] (re3 a b c).q (re3 a b c).dur 3 6 = clamp k1 c.length := by
  have e0 : kept [k0, k1, k2] 0 ⟨5, 0, a.length⟩ = clamp k0 a.length := by rw [kept_at rfl]; unfold clamp; simp
  have e1 : kept [k0, k1, k2] 1 ⟨6, 0, c.length⟩ = clamp k1 c.length := by rw [kept_at rfl]; unfold clamp; simp
  have e2 : kept [k0, k1, k2] 2 ⟨5, a.length, a.length + b.length⟩ = clamp k2 b.length := by
    rw [kept_at rfl]; unfold clamp; rw [show ((a.length + b.length : Nat) : Int) - (a.length : Nat) = (b.length : Int) by omega]
  rw [re3_q ha na nb nc]
  rw [crU_at (k := 2) (p := ⟨5, a.length, a.length + b.length⟩) rfl, crU_at (k := 1) (p := ⟨6, 0, c.length⟩) rfl, crU_at (k := 0) (p := ⟨5, 0, a.length⟩) rfl, e0, e1, e2]
  have u : (re3 a b c).dur = fun _ => 0 := by rw [re3_s ha]; rfl
  simp only [crU, u]
  constructor
  · by_cases h2 : 0 < clamp k2 b.length
    · rw [if_pos h2, if_pos h2]; rw [upd_same]
    · rw [if_neg h2, if_neg h2]
      by_cases h1 : 0 < clamp k1 c.length
      · rw [if_pos h1, upd_other _ _ (by omega)]
        by_cases h0 : 0 < clamp k0 a.length
        · rw [if_pos h0, upd_same] <;> omega
        · rw [if_neg h0] <;> omega
      · rw [if_neg h1]
        by_cases h0 : 0 < clamp k0 a.length
        · rw [if_pos h0, upd_same] <;> omega
        · rw [if_neg h0] <;> omega
  · by_cases h2 : 0 < clamp k2 b.length
    · rw [if_pos h2, upd_other _ _ (by omega)]
      by_cases h1 : 0 < clamp k1 c.length
      · rw [if_pos h1, upd_same] <;> omega
      · rw [if_neg h1]
        by_cases h0 : 0 < clamp k0 a.length
        · rw [if_pos h0, upd_other _ _ (by omega)] <;> omega
        · rw [if_neg h0] <;> omega
    · rw [if_neg h2]
      by_cases h1 : 0 < clamp k1 c.length
      · rw [if_pos h1, upd_same] <;> omega
      · rw [if_neg h1]
        by_cases h0 : 0 < clamp k0 a.length
        · rw [if_pos h0, upd_other _ _ (by omega)] <;> omega
        · rw [if_neg h0] <;> omega
omit ha na nb nc in
theorem zer_take (l : Bts) (x n : Nat) (hx : x ≤ n) (_ : n ≤ l.length) : (zer l x n).take x = l.take x := by
  unfold zer
  rw [List.append_assoc, List.take_append_of_le_length (by rw [List.length_take]; omega), List.take_take, Nat.min_self]
theorem re4_5 : (re4 a b c k0 k1 k2).data 5 = (if clamp k2 b.length = 0 then a.take (clamp k0 a.length) else a.take (clamp k0 a.length) ++ List.replicate (a.length - clamp k0 a.length) 0 ++ b.take (clamp k2 b.length)) ∧ (re4 a b c k0 k1 k2).data 6 = c.take (clamp k1 c.length) := by
  have hx := clamp_le k0 a.length
  have hy := clamp_le k2 b.length
  have hz := clamp_le k1 c.length
  have hq : (re3 a b c).q.length = 3 := by rw [re3_q ha na nb nc]; rfl
  have e : re4 a b c k0 k1 k2 = { data := fun f => (crD [k0, k1, k2] (re3 a b c).q (re3 a b c).data 3 f).take (crU [k0, k1, k2] (re3 a b c).q (re3 a b c).dur 3 f), dur := crU [k0, k1, k2] (re3 a b c).q (re3 a b c).dur 3, q := [], down := true, lost := (re3 a b c).lost, armed := 0, keep := [] } := by
    unfold re4 crash; rw [if_neg (by rw [(re3_up a b c).down]; simp), hq]
  obtain ⟨u5, u6⟩ := re3_u (k0 := k0) (k1 := k1) (k2 := k2) ha na nb nc
  rw [e]
  constructor
  · show (crD _ _ _ 3 5).take (crU _ _ _ 3 5) = _
    rw [u5, re3_d ha na nb nc, upd_same]
    have z1 : zer (a ++ b) (clamp k0 a.length) a.length = a.take (clamp k0 a.length) ++ List.replicate (a.length - clamp k0 a.length) 0 ++ b := by
      unfold zer; rw [List.take_append_of_le_length hx, List.drop_left]
    have l1 : (a.take (clamp k0 a.length) ++ List.replicate (a.length - clamp k0 a.length) 0).length = a.length := by
      rw [List.length_append, List.length_take, List.length_replicate]; omega
    rw [z1]
    by_cases h : clamp k2 b.length = 0
    · rw [if_neg (by omega), if_pos h, h]
      have := zer_take (a.take (clamp k0 a.length) ++ List.replicate (a.length - clamp k0 a.length) 0 ++ b) (a.length + 0) (a.length + b.length) (by omega) (by rw [List.length_append, l1]; exact Nat.le_refl _)
      have t2 : ∀ (l : Bts) (n m : Nat), n ≤ m → l.take n = (l.take m).take n := fun l n m h => by rw [List.take_take, Nat.min_eq_left h]
      rw [t2 _ (clamp k0 a.length) (a.length + 0) (by omega), this, List.take_take, Nat.min_eq_left (by omega), List.append_assoc, List.take_append_of_le_length (by rw [List.length_take]; omega), List.take_take, Nat.min_self]
    · rw [if_pos (by omega), if_neg h, zer_take _ _ _ (by omega) (by rw [List.length_append, l1]; exact Nat.le_refl _)]
      rw [List.take_append, l1, List.take_of_length_le (by rw [l1]; omega), show a.length + clamp k2 b.length - a.length = clamp k2 b.length by omega]
  · show (crD _ _ _ 3 6).take (crU _ _ _ 3 6) = _
    rw [u6, re3_d ha na nb nc, upd_other _ _ (by omega), upd_same, zer_take _ _ _ hz (Nat.le_refl _)]
omit ha na nb nc in
theorem re8_same {f : Nat} : (re8 a b c k0 k1 k2).data f = (re4 a b c k0 k1 k2).data f := by
  have e5 : re5 a b c k0 k1 k2 = re4 a b c k0 k1 k2 := crash_again _ (crash_down _)
  show (re7 a b c k0 k1 k2).data f = _
  unfold re7 re6
  rw [e5]
  have hq : (re4 a b c k0 k1 k2).q = [] := by unfold re4 crash; rw [if_neg (by rw [(re3_up a b c).down]; simp)]
  rw [crash_quiet (s := start (re4 a b c k0 k1 k2)) rfl [] (fun p hp => by have : p ∈ (re4 a b c k0 k1 k2).q := hp; rw [hq] at this; cases this)]
  show List.take ((re4 a b c k0 k1 k2).dur f) ((re4 a b c k0 k1 k2).data f) = _
  unfold re4 crash; rw [if_neg (by rw [(re3_up a b c).down]; simp)]
  show List.take _ (List.take _ _) = _
  rw [List.take_take, Nat.min_self]
end
end DK
end Go.Proofs.Ytfohojkclfofmaa
