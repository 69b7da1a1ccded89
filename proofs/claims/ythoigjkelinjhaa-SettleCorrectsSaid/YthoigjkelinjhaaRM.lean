/- Plain laws of the places that water reaches, and of what there is at the beginning. -/
set_option linter.unusedSimpArgs false
set_option linter.unusedVariables false
namespace Go.Proofs.Ythoigjkelinjhaa.CM

/-- A place: where its water goes, and how long it takes. -/
abbrev Pl := List (Int × Int)
def downP (pl : Pl) (p : Nat) : Int := (pl.getD p (0, 0)).1
def delayP (pl : Pl) (p : Nat) : Int := (pl.getD p (0, 0)).2
/-- The places from one on that have not been seen. -/
def reachG (pl : Pl) : Nat → Int → List Nat → List Nat
  | 0, _, _ => []
  | f + 1, p, acc => if 0 ≤ p ∧ p < pl.length ∧ p.toNat ∉ acc then p.toNat :: (if 24 ≤ delayP pl p.toNat then [] else reachG pl f (downP pl p.toNat) (acc ++ [p.toNat])) else []
def reach (pl : Pl) (p : Int) : List Nat := reachG pl (pl.length + 1) p []
theorem reachG_yes {pl : Pl} {f : Nat} {p : Nat} {acc : List Nat} (h : p < pl.length) (ha : p ∉ acc) :
    reachG pl (f + 1) (p : Int) acc = p :: (if 24 ≤ delayP pl p then [] else reachG pl f (downP pl p) (acc ++ [p])) := by
  show (if _ then _ else _) = _
  rw [if_pos ⟨by omega, by omega, by simpa using ha⟩]; rfl
theorem reachG_no {pl : Pl} {f : Nat} {p : Int} {acc : List Nat} (h : ¬ (0 ≤ p ∧ p < pl.length ∧ p.toNat ∉ acc)) : reachG pl f p acc = [] := by
  cases f with
  | zero => rfl
  | succ f => show (if _ then _ else _) = _; rw [if_neg h]
theorem reachG_facts (pl : Pl) : ∀ (f : Nat) (p : Int) (acc : List Nat), (∀ q ∈ reachG pl f p acc, q < pl.length ∧ q ∉ acc) ∧ (reachG pl f p acc).Nodup
  | 0, _, _ => ⟨(fun _ h => nomatch h), List.nodup_nil⟩
  | f + 1, p, acc => by
    by_cases h : 0 ≤ p ∧ p < pl.length ∧ p.toNat ∉ acc
    · obtain ⟨n, rfl⟩ : ∃ n : Nat, p = n := ⟨p.toNat, by omega⟩
      have hn : n < pl.length := by omega
      have ha : n ∉ acc := by simpa using h.2.2
      rw [reachG_yes hn ha]
      by_cases g : 24 ≤ delayP pl n
      · rw [if_pos g]
        exact ⟨fun q hq => by simp at hq; subst hq; exact ⟨hn, ha⟩, by simp⟩
      · rw [if_neg g]
        obtain ⟨i1, i2⟩ := reachG_facts pl f (downP pl n) (acc ++ [n])
        refine ⟨fun q hq => ?_, ?_⟩
        · rcases List.mem_cons.1 hq with rfl | hq
          · exact ⟨hn, ha⟩
          · exact ⟨(i1 q hq).1, fun e => (i1 q hq).2 (by simp [e])⟩
        · rw [List.nodup_cons]
          exact ⟨fun e => (i1 n e).2 (by simp), i2⟩
    · rw [reachG_no h]
      exact ⟨(fun _ h => nomatch h), List.nodup_nil⟩
theorem reach_lt {pl : Pl} {p : Int} {q : Nat} (h : q ∈ reach pl p) : q < pl.length := ((reachG_facts pl _ p []).1 q h).1
theorem reach_nodup (pl : Pl) (p : Int) : (reach pl p).Nodup := (reachG_facts pl _ p []).2
theorem reach_nil {pl : Pl} {p : Int} : reach pl p = [] ↔ ¬ (0 ≤ p ∧ p < pl.length) := by
  unfold reach
  constructor
  · intro h g
    obtain ⟨n, rfl⟩ : ∃ n : Nat, p = n := ⟨p.toNat, by omega⟩
    rw [reachG_yes (by omega) (by simp)] at h
    cases h
  · intro h
    exact reachG_no (fun g => h ⟨g.1, g.2.1⟩)
/-- At most so many places have been seen. -/
theorem nodup_len : ∀ (n : Nat) (l : List Nat), l.Nodup → (∀ q ∈ l, q < n) → l.length ≤ n
  | 0, l, _, h => by
    cases l with
    | nil => exact Nat.le_refl _
    | cons v l => have := h v (List.mem_cons_self ..); omega
  | n + 1, l, hn, h => by
    by_cases hm : n ∈ l
    · have ih := nodup_len n (l.erase n) (List.Nodup.erase _ hn) (fun q hq => by
        have h1 := h q (List.mem_of_mem_erase hq)
        have h2 : q ≠ n := fun e => by subst e; exact (List.Nodup.not_mem_erase hn) hq
        omega)
      have := List.length_erase_of_mem hm
      omega
    · have ih := nodup_len n l hn (fun q hq => by
        have h1 := h q hq
        have h2 : q ≠ n := fun e => hm (e ▸ hq)
        omega)
      omega
/-- The sum, limited to the range of an int. -/
def satA (a b : Int) : Int := if 0 < b ∧ 9223372036854775807 - b < a then 9223372036854775807 else if b < 0 ∧ a < -9223372036854775808 - b then -9223372036854775808 else a + b
def thereN (pl : Pl) (sup : Nat → Int) : Nat → Nat → Int
  | 0, _ => 0
  | p + 1, q => if 0 < sup p ∧ q ∈ reach pl (p : Int) then satA (thereN pl sup p q) (sup p) else thereN pl sup p q
theorem thereN_succ (pl : Pl) (sup : Nat → Int) (p q : Nat) : thereN pl sup (p + 1) q = if 0 < sup p ∧ q ∈ reach pl (p : Int) then satA (thereN pl sup p q) (sup p) else thereN pl sup p q := rfl
theorem satA_in {a b : Int} (ha : -9223372036854775808 ≤ a ∧ a ≤ 9223372036854775807) (hb : -9223372036854775808 ≤ b ∧ b ≤ 9223372036854775807) : -9223372036854775808 ≤ satA a b ∧ satA a b ≤ 9223372036854775807 := by
  unfold satA; split
  · omega
  · split <;> omega
theorem thereN_in {pl : Pl} {sup : Nat → Int} (hs : ∀ p, -9223372036854775808 ≤ sup p ∧ sup p ≤ 9223372036854775807) : ∀ n q, 0 ≤ thereN pl sup n q ∧ thereN pl sup n q ≤ 9223372036854775807
  | 0, _ => by show (0 : Int) ≤ 0 ∧ (0 : Int) ≤ _; omega
  | n + 1, q => by
    have ih := thereN_in (pl := pl) hs n q
    have h1 := hs n
    rw [thereN_succ]
    split
    · rename_i g
      unfold satA
      split
      · omega
      · split <;> omega
    · exact ih
/-- The sum of what is positive. -/
def posSum (sup : Nat → Int) : Nat → Int
  | 0 => 0
  | n + 1 => posSum sup n + max 0 (sup n)
theorem posSum_nn (sup : Nat → Int) : ∀ n, 0 ≤ posSum sup n
  | 0 => Int.le_refl _
  | n + 1 => by have := posSum_nn sup n; show 0 ≤ posSum sup n + _; omega
theorem thereN_le {pl : Pl} {sup : Nat → Int} : ∀ n q, posSum sup n ≤ 1125899906842624 → 0 ≤ thereN pl sup n q ∧ thereN pl sup n q ≤ posSum sup n
  | 0, _, _ => ⟨Int.le_refl _, Int.le_refl _⟩
  | n + 1, q, h => by
    have e : posSum sup (n + 1) = posSum sup n + max 0 (sup n) := rfl
    have hn := posSum_nn sup n
    have ih := thereN_le (pl := pl) (sup := sup) n q (by omega)
    rw [thereN_succ, e]
    split
    · rename_i g
      unfold satA
      rw [if_neg (by omega), if_neg (by omega)]
      omega
    · omega
/-- A right. -/
structure Rt where
  id : Int
  owner : Int
  date : Int
  place : Int
  rate : Int
  from1 : Int
  until1 : Int
  back : Int
  backTo : Int
end Go.Proofs.Ythoigjkelinjhaa.CM
