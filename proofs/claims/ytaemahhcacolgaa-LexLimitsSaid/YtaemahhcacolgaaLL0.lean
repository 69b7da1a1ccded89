/- Plain facts for LexLimits: names, numbers and strings of n bytes as tokens. -/
import Derived.Test.YtaemahhcacolgaaW22
namespace Go.Proofs.Ytaemahhcacolgaa
open Go.RowKit LX

def nameU (j : Nat) : UInt8 := match j % 5 with | 0 => 97 | 1 => 90 | 2 => 95 | 3 => 48 | _ => 57
def nameL (n : Nat) : List UInt8 := (List.range n).map nameU
def numU (f : Option Nat) (j : Nat) : UInt8 := if f = some j then 46 else UInt8.ofNat (48 + j % 10)
def numL (f : Option Nat) (n : Nat) : List UInt8 := (List.range n).map (numU f)
theorem nameL_len (n : Nat) : (nameL n).length = n := by simp [nameL]
theorem numL_len (f : Option Nat) (n : Nat) : (numL f n).length = n := by simp [numL]
theorem nameL_get (n j : Nat) (h : j < n) : (nameL n)[j]? = some (nameU j) := by simp [nameL, h]
theorem numL_get (f : Option Nat) (n j : Nat) (h : j < n) : (numL f n)[j]? = some (numU f j) := by simp [numL, h]
theorem nameU_cases (j : Nat) : nameU j = 97 ∨ nameU j = 90 ∨ nameU j = 95 ∨ nameU j = 48 ∨ nameU j = 57 := by
  unfold nameU; split <;> simp
theorem nameU_name (j : Nat) : on nameB (nameU j) = true := by rcases nameU_cases j with h | h | h | h | h <;> rw [h] <;> rfl
theorem nameU_str (j : Nat) : on strB (nameU j) = true := by rcases nameU_cases j with h | h | h | h | h <;> rw [h] <;> rfl
theorem numU_digit (f : Option Nat) (j : Nat) (h : f ≠ some j) : on digitB (numU f j) = true := by
  unfold numU
  rw [if_neg h]
  have : j % 10 < 10 := Nat.mod_lt _ (by omega)
  generalize j % 10 = q at this
  rcases (show q = 0 ∨ q = 1 ∨ q = 2 ∨ q = 3 ∨ q = 4 ∨ q = 5 ∨ q = 6 ∨ q = 7 ∨ q = 8 ∨ q = 9 by omega) with rfl | rfl | rfl | rfl | rfl | rfl | rfl | rfl | rfl | rfl <;> rfl
theorem app_lt {l m : List UInt8} {j : Nat} (h : j < l.length) : (l ++ m)[j]? = l[j]? := List.getElem?_append_left h
theorem app_ge {l m : List UInt8} : (l ++ m)[l.length]? = m[0]? := by rw [List.getElem?_append_right (Nat.le_refl _), Nat.sub_self]
theorem skip_head0 {c : UInt8} {r : List UInt8} (h1 : on blankB c = false) (h2 : c ≠ 35) : skipC false (c :: r) = 0 := by
  rw [skipC_f, if_neg (by rw [h1]; simp), if_neg h2]
theorem name_tok (n : Nat) (h : 1 ≤ n) : tokL (nameL n ++ [32, 59]) = ⟨0, nameL n, n, decide (n ≤ 24)⟩ ∧ skipC false (nameL n ++ [32, 59]) = 0 := by
  obtain ⟨m, rfl⟩ : ∃ m, n = m + 1 := ⟨n - 1, by omega⟩
  have hr : run (on nameB) (nameL (m + 1) ++ [32, 59]) = m + 1 := by
    refine run_eq _ _ _ (by simp [nameL_len]) (fun j c hj hc => ?_) (fun c hc => ?_)
    · rw [app_lt (by rw [nameL_len]; exact hj), nameL_get _ _ hj] at hc
      obtain rfl := Option.some.inj hc
      exact nameU_name j
    · have e := app_ge (l := nameL (m + 1)) (m := [32, 59])
      rw [nameL_len] at e
      rw [e] at hc
      obtain rfl : (32 : UInt8) = c := by simpa using hc
      rfl
  have hc : nameL (m + 1) = 97 :: (nameL (m + 1)).tail := by
    have : (nameL (m + 1))[0]? = some 97 := nameL_get _ 0 (by omega)
    cases hq : nameL (m + 1) with
    | nil => rw [hq] at this; cases this
    | cons a b => rw [hq] at this; obtain rfl : a = 97 := by simpa using this
                  rfl
  have hcc : nameL (m + 1) ++ [32, 59] = 97 :: ((nameL (m + 1)).tail ++ [32, 59]) := (congrArg (fun l => l ++ [32, 59]) hc).trans rfl
  refine ⟨?_, by rw [hcc]; exact skip_head0 rfl (by decide)⟩
  rcases tokL_cases 97 ((nameL (m + 1)).tail ++ [32, 59]) with ⟨_, e⟩ | ⟨q, _⟩ | ⟨q, _⟩ | ⟨q, _⟩
  · rw [← hcc, hr] at e
    rw [e]
    congr 1
    have := nameL_len (m + 1)
    rw [List.take_append_of_le_length (by omega), List.take_of_length_le (by omega)]
  all_goals cases q
theorem num_tok (f : Option Nat) (n : Nat) (h : 1 ≤ n) (hf : ∀ k, f = some k → 0 < k ∧ k + 1 < n) : tokL (numL f n ++ [32, 59]) = ⟨1, numL f n, n, decide (n ≤ 24)⟩ ∧ skipC false (numL f n ++ [32, 59]) = 0 := by
  obtain ⟨m, rfl⟩ : ∃ m, n = m + 1 := ⟨n - 1, by omega⟩
  have h0 : f ≠ some 0 := fun e => by have := (hf 0 e).1; omega
  have hend : (numL f (m + 1) ++ [32, 59])[m + 1]? = some 32 := by
    have e := app_ge (l := numL f (m + 1)) (m := [32, 59])
    rw [numL_len] at e
    rw [e]; rfl
  have hat : ∀ j, j < m + 1 → (numL f (m + 1) ++ [32, 59])[j]? = some (numU f j) := fun j hj => by
    rw [app_lt (by rw [numL_len]; exact hj), numL_get _ _ _ hj]
  have hlen : (numL f (m + 1) ++ [32, 59]).length = m + 3 := by simp [numL_len]
  have hn : numN (numL f (m + 1) ++ [32, 59]) = m + 1 := by
    unfold numN
    dsimp only
    cases f with
    | none =>
      have hr : run (on digitB) (numL none (m + 1) ++ [32, 59]) = m + 1 := by
        refine run_eq _ _ _ (by omega) (fun j c hj hc => ?_) (fun c hc => ?_)
        · rw [hat j hj] at hc; obtain rfl := Option.some.inj hc; exact numU_digit _ _ (by simp)
        · rw [hend] at hc; obtain rfl := Option.some.inj hc; rfl
      rw [hr, hend, if_neg (by rintro ⟨q, _⟩; cases q)]
    | some k =>
      obtain ⟨k1, k2⟩ := hf k rfl
      have hr : run (on digitB) (numL (some k) (m + 1) ++ [32, 59]) = k := by
        refine run_eq _ _ _ (by omega) (fun j c hj hc => ?_) (fun c hc => ?_)
        · rw [hat j (by omega)] at hc; obtain rfl := Option.some.inj hc; exact numU_digit _ _ (by simp; omega)
        · rw [hat k (by omega)] at hc; obtain rfl := Option.some.inj hc; simp only [numU, if_true]; rfl
      have hr2 : run (on digitB) ((numL (some k) (m + 1) ++ [32, 59]).drop (k + 1)) = m + 1 - (k + 1) := by
        refine run_eq _ _ _ (by simp [numL_len]; omega) (fun j c hj hc => ?_) (fun c hc => ?_)
        · rw [List.getElem?_drop, hat _ (by omega)] at hc; obtain rfl := Option.some.inj hc; exact numU_digit _ _ (by simp; omega)
        · rw [List.getElem?_drop, show k + 1 + (m + 1 - (k + 1)) = m + 1 by omega, hend] at hc; obtain rfl := Option.some.inj hc; rfl
      rw [hr, if_pos ⟨by rw [hat k (by omega)]; simp [numU], _, hat (k + 1) (by omega), numU_digit _ _ (by simp)⟩, hr2]
      omega
  have hc : numL f (m + 1) = 48 :: (numL f (m + 1)).tail := by
    have : (numL f (m + 1))[0]? = some 48 := by rw [numL_get _ _ 0 (by omega)]; unfold numU; rw [if_neg h0]; rfl
    cases hq : numL f (m + 1) with
    | nil => rw [hq] at this; cases this
    | cons a b => rw [hq] at this; obtain rfl : a = 48 := by simpa using this
                  rfl
  have hcc : numL f (m + 1) ++ [32, 59] = 48 :: ((numL f (m + 1)).tail ++ [32, 59]) := (congrArg (fun l => l ++ [32, 59]) hc).trans rfl
  refine ⟨?_, by rw [hcc]; exact skip_head0 rfl (by decide)⟩
  rcases tokL_cases 48 ((numL f (m + 1)).tail ++ [32, 59]) with ⟨q, _⟩ | ⟨_, _, e⟩ | ⟨_, q, _⟩ | ⟨_, q, _⟩
  · cases q
  · rw [← hcc, hn] at e
    rw [e]
    congr 1
    have := numL_len f (m + 1)
    rw [List.take_append_of_le_length (by omega), List.take_of_length_le (by omega)]
  all_goals cases q
theorem str_tok (n : Nat) : tokL (34 :: (nameL n ++ [34]) ++ [32, 59]) = ⟨2, nameL n, n + 2, decide (n ≤ 500)⟩ ∧ skipC false (34 :: (nameL n ++ [34]) ++ [32, 59]) = 0 := by
  refine ⟨?_, skip_head0 rfl (by decide)⟩
  have e0 : 34 :: (nameL n ++ [34]) ++ [32, 59] = 34 :: (nameL n ++ [34, 32, 59]) := by simp
  have hend : (nameL n ++ [34, 32, 59])[n]? = some 34 := by
    have e := app_ge (l := nameL n) (m := [34, 32, 59])
    rw [nameL_len] at e
    rw [e]; rfl
  have hr : run (on strB) (nameL n ++ [34, 32, 59]) = n := by
    refine run_eq _ _ _ (by simp [nameL_len]) (fun j c hj hc => ?_) (fun c hc => ?_)
    · rw [app_lt (by rw [nameL_len]; exact hj), nameL_get _ _ hj] at hc
      obtain rfl := Option.some.inj hc
      exact nameU_str j
    · rw [hend] at hc; obtain rfl := Option.some.inj hc; rfl
  rw [e0]
  rcases tokL_cases 34 (nameL n ++ [34, 32, 59]) with ⟨q, _⟩ | ⟨_, q, _⟩ | ⟨_, _, _, e⟩ | ⟨_, _, q, _⟩
  · cases q
  · cases q
  · rw [hr, hend] at e
    rw [e]
    have := nameL_len n
    rw [List.take_append_of_le_length (by omega), List.take_of_length_le (by omega)]
    simp
  · exact absurd rfl q
/-- A source of one token and a semicolon. -/
theorem one_tok {X : List UInt8} {kd : Int} {tx : List UInt8} {ok : Bool} (h : tokL (X ++ [32, 59]) = ⟨kd, tx, X.length, ok⟩) (hs : skipC false (X ++ [32, 59]) = 0) :
    (ok = true → Sc (32 :: (X ++ [32, 59])) 0 [⟨kd, tx, 1⟩, ⟨3, [59], X.length + 2⟩, ⟨4, [], X.length + 3⟩] none) ∧ (ok = false → Sc (32 :: (X ++ [32, 59])) 0 [] (some 1)) := by
  have e1 : skipC false (32 :: (X ++ [32, 59])) = 1 := by rw [skipC_f, if_pos (show on blankB 32 = true from rfl), hs]
  constructor
  · rintro rfl
    have h2 : Sc [32, 59] (1 + X.length) [⟨3, [59], 1 + X.length + 1⟩, ⟨4, [], 1 + X.length + 1 + 1⟩] none := scanF_sc 3 _ _ _ _ rfl
    have := Sc.tok (32 :: (X ++ [32, 59])) 0 ⟨kd, tx, X.length, true⟩ _ none (by rw [e1]; simp) (by rw [e1]; exact h) rfl (by rw [e1]; show Sc ((X ++ [32, 59]).drop X.length) (0 + 1 + X.length) _ _; rw [List.drop_left, Nat.zero_add]; exact h2)
    rw [e1] at this
    rw [show X.length + 2 = 1 + X.length + 1 by omega, show X.length + 3 = 1 + X.length + 1 + 1 by omega]
    exact this
  · rintro rfl
    have := Sc.bad (32 :: (X ++ [32, 59])) 0 (by rw [e1]; simp) (by rw [e1]; show (tokL (X ++ [32, 59])).ok = false; rw [h])
    rw [e1] at this
    exact this
theorem blanks_skip : ∀ n, skipC false (List.replicate n 32) = n
  | 0 => rfl
  | n + 1 => by rw [List.replicate_succ, skipC_f, if_pos (show on blankB 32 = true from rfl), blanks_skip n]
theorem blanks_sc (n : Nat) : Sc (List.replicate n 32) 0 [⟨4, [], n⟩] none := by
  have := Sc.fin (List.replicate n 32) 0 (by rw [blanks_skip]; simp)
  simpa using this
end Go.Proofs.Ytaemahhcacolgaa
