/- Plain laws of the tokens of a source: what is a token, how a source is cut. -/
namespace Go.Proofs.Ytaemahhcacolgaa.LX

/-- Sorts of bytes. -/
def letterB (c : Int) : Bool := decide (97 ≤ c ∧ c ≤ 122) || decide (65 ≤ c ∧ c ≤ 90)
def digitB (c : Int) : Bool := decide (48 ≤ c ∧ c ≤ 57)
def nameB (c : Int) : Bool := letterB c || digitB c || decide (c = 95)
def strB (c : Int) : Bool := decide (32 ≤ c ∧ c ≤ 126) && !decide (c = 34) && !decide (c = 92)
def blankB (c : Int) : Bool := decide (c = 9) || decide (c = 10) || decide (c = 13) || decide (c = 32)
def lineB (c : Int) : Bool := !decide (c = 10)
abbrev Byte := UInt8
def Byte.n (c : UInt8) : Int := (c.toNat : Int)
def on (p : Int → Bool) (c : UInt8) : Bool := p (c.toNat : Int)
/-- How many bytes at the beginning belong to a sort. -/
def run (p : UInt8 → Bool) : List UInt8 → Nat
  | [] => 0
  | c :: l => if p c then run p l + 1 else 0
/-- How many bytes at the beginning are white space or comment; the Bool: a comment is open. -/
def skipC : Bool → List UInt8 → Nat
  | _, [] => 0
  | false, c :: l => if on blankB c then skipC false l + 1 else if c = 35 then skipC true l + 1 else 0
  | true, c :: l => if c = 10 then skipC false l + 1 else skipC true l + 1
/-- The length of the sign at the beginning, or 0. -/
def signN : List UInt8 → Nat
  | [] => 0
  | c :: r =>
    if c = 60 ∨ c = 62 ∨ c = 61 ∨ c = 33 then (if r.head? = some 61 then 2 else if c = 33 then 0 else 1)
    else if c = 123 ∨ c = 125 ∨ c = 40 ∨ c = 41 ∨ c = 44 ∨ c = 59 ∨ c = 58 ∨ c = 43 ∨ c = 45 ∨ c = 42 ∨ c = 47 ∨ c = 37 then 1 else 0
/-- The length of the number at the beginning. -/
def numN (l : List UInt8) : Nat :=
  let n := run (on digitB) l
  if l[n]? = some 46 ∧ (∃ d, l[n + 1]? = some d ∧ on digitB d = true) then n + 1 + run (on digitB) (l.drop (n + 1)) else n
structure Raw where
  kind : Int
  text : List UInt8
  n : Nat
  ok : Bool
/-- The token at the beginning: its kind, its text, its length, whether it is one. -/
def tokL : List UInt8 → Raw
  | [] => ⟨3, [], 0, false⟩
  | c :: r =>
    if on letterB c then (let n := run (on nameB) (c :: r); ⟨0, (c :: r).take n, n, decide (n ≤ 24)⟩)
    else if on digitB c then (let n := numN (c :: r); ⟨1, (c :: r).take n, n, decide (n ≤ 24)⟩)
    else if c = 34 then (let m := run (on strB) r; ⟨2, r.take m, m + 2, decide (r[m]? = some 34 ∧ m ≤ 500)⟩)
    else (let n := signN (c :: r); ⟨3, (c :: r).take n, n, decide (0 < n)⟩)

theorem run_le (p : UInt8 → Bool) : ∀ l, run p l ≤ l.length
  | [] => Nat.le_refl _
  | c :: l => by have := run_le p l; unfold run; split <;> simp <;> omega
theorem run_all (p : UInt8 → Bool) : ∀ (l : List UInt8) (j : Nat) c, j < run p l → l[j]? = some c → p c = true
  | [], j, c, h, _ => by simp [run] at h
  | d :: l, 0, c, h, hc => by
    obtain rfl : d = c := by simpa using hc
    unfold run at h
    split at h
    · assumption
    · omega
  | d :: l, j + 1, c, h, hc => by
    unfold run at h
    split at h
    · exact run_all p l j c (by omega) (by simpa using hc)
    · omega
theorem run_stop (p : UInt8 → Bool) : ∀ (l : List UInt8) c, l[run p l]? = some c → p c = false
  | [], c, h => by simp [run] at h
  | d :: l, c, h => by
    unfold run at h
    split at h
    · exact run_stop p l c (by simpa using h)
    · rename_i g
      obtain rfl : d = c := by simpa using h
      simpa using g
/-- The number of bytes of a sort is told by what they are and what follows. -/
theorem run_eq (p : UInt8 → Bool) : ∀ (l : List UInt8) (k : Nat), k ≤ l.length → (∀ j c, j < k → l[j]? = some c → p c = true) → (∀ c, l[k]? = some c → p c = false) → run p l = k
  | [], k, hk, _, _ => by simp at hk; subst hk; rfl
  | d :: l, 0, _, _, h => by unfold run; rw [if_neg (by rw [h d rfl]; simp)]
  | d :: l, k + 1, hk, h1, h2 => by
    unfold run
    rw [if_pos (h1 0 d (by omega) rfl), run_eq p l k (by simpa using hk) (fun j c hj hc => h1 (j + 1) c (by omega) (by simpa using hc)) (fun c hc => h2 c (by simpa using hc))]
theorem run_take (p : UInt8 → Bool) (l : List UInt8) (k : Nat) (h : run p l ≤ k) : run p (l.take k) = run p l := by
  refine run_eq p _ _ ?_ (fun j c hj hc => run_all p l j c hj ?_) (fun c hc => run_stop p l c ?_)
  · have := run_le p l; simp; omega
  · rw [List.getElem?_take] at hc; split at hc
    · exact hc
    · cases hc
  · rw [List.getElem?_take] at hc; split at hc
    · exact hc
    · cases hc
/-- Behind the bytes something of another sort may stand. -/
theorem run_app (p : UInt8 → Bool) (l m : List UInt8) (h : ∀ c, m.head? = some c → run p l = l.length → p c = false) : run p (l ++ m) = run p l := by
  have hl := run_le p l
  refine run_eq p _ _ (by simp; omega) (fun j c hj hc => run_all p l j c hj ?_) (fun c hc => ?_)
  · rwa [List.getElem?_append_left (by omega)] at hc
  · by_cases g : run p l < l.length
    · rw [List.getElem?_append_left g] at hc; exact run_stop p l c hc
    · have e : run p l = l.length := by omega
      rw [List.getElem?_append_right (by omega), e, Nat.sub_self] at hc
      exact h c (by rw [List.head?_eq_getElem?]; exact hc) e
theorem numN_le (l : List UInt8) : numN l ≤ l.length := by
  have h1 := run_le (on digitB) l
  unfold numN
  dsimp only
  split
  · rename_i g
    obtain ⟨_, d, hd, _⟩ := g
    have := (List.getElem?_eq_some_iff.1 hd).1
    have h2 := run_le (on digitB) (l.drop (run (on digitB) l + 1))
    simp at h2; omega
  · exact h1
theorem signN_le (l : List UInt8) : signN l ≤ l.length := by
  cases l with
  | nil => exact Nat.le_refl _
  | cons c r =>
    unfold signN
    cases r with
    | nil => simp; split <;> (try split) <;> omega
    | cons d r => simp only [List.length_cons]; split <;> split <;> (try split) <;> omega
/-- Offsets. -/
structure Tok where
  kind : Int
  text : List UInt8
  pos : Nat
/-- How a source is cut: the tokens, and where there is none. -/
inductive Sc : List UInt8 → Nat → List Tok → Option Nat → Prop
  | fin (l : List UInt8) (pos : Nat) : l.drop (skipC false l) = [] → Sc l pos [⟨4, [], pos + l.length⟩] none
  | bad (l : List UInt8) (pos : Nat) : l.drop (skipC false l) ≠ [] → (tokL (l.drop (skipC false l))).ok = false → Sc l pos [] (some (pos + skipC false l))
  | tok (l : List UInt8) (pos : Nat) (r : Raw) (ts : List Tok) (e : Option Nat) : l.drop (skipC false l) ≠ [] → tokL (l.drop (skipC false l)) = r → r.ok = true → Sc ((l.drop (skipC false l)).drop r.n) (pos + skipC false l + r.n) ts e → Sc l pos (⟨r.kind, r.text, pos + skipC false l⟩ :: ts) e
theorem skipC_le : ∀ (b : Bool) (l : List UInt8), skipC b l ≤ l.length
  | _, [] => by simp [skipC]
  | false, c :: l => by
    have h1 := skipC_le false l
    have h2 := skipC_le true l
    unfold skipC; split
    · simp; omega
    · split <;> simp <;> omega
  | true, c :: l => by
    have h1 := skipC_le false l
    have h2 := skipC_le true l
    unfold skipC; split <;> simp <;> omega
theorem Sc.det {l : List UInt8} {pos : Nat} {ts us : List Tok} {e f : Option Nat} (h : Sc l pos ts e) (k : Sc l pos us f) : ts = us ∧ e = f := by
  induction h generalizing us f with
  | fin l pos h0 =>
    cases k with
    | fin _ _ _ => exact ⟨rfl, rfl⟩
    | bad _ _ h1 _ => exact absurd h0 h1
    | tok _ _ _ _ _ h1 _ _ _ => exact absurd h0 h1
  | bad l pos h0 h1 =>
    cases k with
    | fin _ _ h2 => exact absurd h2 h0
    | bad _ _ _ _ => exact ⟨rfl, rfl⟩
    | tok _ _ r _ _ _ h2 h3 _ => subst h2; rw [h1] at h3; cases h3
  | tok l pos r ts e h0 h1 h2 _ ih =>
    cases k with
    | fin _ _ h3 => exact absurd h3 h0
    | bad _ _ _ h3 => subst h1; rw [h2] at h3; cases h3
    | tok _ _ r2 us2 f2 _ h3 _ h5 =>
      obtain rfl : r = r2 := h1.symm.trans h3
      obtain ⟨rfl, rfl⟩ := ih h5
      exact ⟨rfl, rfl⟩
theorem letter_name {c : UInt8} (g : on letterB c = true) : on nameB c = true := by
  show (letterB _ || digitB _ || _) = true
  have : letterB (c.toNat : Int) = true := g
  rw [this]; rfl
theorem tokL_cases (c : UInt8) (r : List UInt8) :
    (on letterB c = true ∧ tokL (c :: r) = ⟨0, (c :: r).take (run (on nameB) (c :: r)), run (on nameB) (c :: r), decide (run (on nameB) (c :: r) ≤ 24)⟩) ∨
    (on letterB c = false ∧ on digitB c = true ∧ tokL (c :: r) = ⟨1, (c :: r).take (numN (c :: r)), numN (c :: r), decide (numN (c :: r) ≤ 24)⟩) ∨
    (on letterB c = false ∧ on digitB c = false ∧ c = 34 ∧ tokL (c :: r) = ⟨2, r.take (run (on strB) r), run (on strB) r + 2, decide (r[run (on strB) r]? = some 34 ∧ run (on strB) r ≤ 500)⟩) ∨
    (on letterB c = false ∧ on digitB c = false ∧ c ≠ 34 ∧ tokL (c :: r) = ⟨3, (c :: r).take (signN (c :: r)), signN (c :: r), decide (0 < signN (c :: r))⟩) := by
  by_cases g1 : on letterB c = true
  · left; exact ⟨g1, by simp only [tokL, if_pos g1]⟩
  have g1' : on letterB c = false := by simpa using g1
  by_cases g2 : on digitB c = true
  · right; left; exact ⟨g1', g2, by simp only [tokL, if_neg g1, if_pos g2]⟩
  have g2' : on digitB c = false := by simpa using g2
  by_cases g3 : c = 34
  · right; right; left; exact ⟨g1', g2', g3, by simp only [tokL, if_neg g1, if_neg g2, if_pos g3]⟩
  · right; right; right; exact ⟨g1', g2', g3, by simp only [tokL, if_neg g1, if_neg g2, if_neg g3]⟩
theorem tok_pos {l : List UInt8} (h : (tokL l).ok = true) : 0 < (tokL l).n := by
  cases l with
  | nil => simp [tokL] at h
  | cons c r =>
    rcases tokL_cases c r with ⟨g, e⟩ | ⟨_, g, e⟩ | ⟨_, _, g, e⟩ | ⟨_, _, _, e⟩ <;> rw [e] at h ⊢
    · have : on nameB c = true := letter_name g
      simp [run, this]
    · have h1 : 0 < run (on digitB) (c :: r) := by simp [run, g]
      show 0 < numN (c :: r)
      unfold numN; dsimp only; split <;> omega
    · show 0 < _ + 2
      omega
    · exact of_decide_eq_true h
theorem tok_le {l : List UInt8} (h : (tokL l).ok = true) : (tokL l).n ≤ l.length := by
  cases l with
  | nil => simp [tokL]
  | cons c r =>
    rcases tokL_cases c r with ⟨g, e⟩ | ⟨_, g, e⟩ | ⟨_, _, g, e⟩ | ⟨_, _, _, e⟩ <;> rw [e] at h ⊢
    · exact run_le _ (c :: r)
    · exact numN_le (c :: r)
    · have h := (of_decide_eq_true h).1
      have := (List.getElem?_eq_some_iff.1 h).1
      simp only [List.length_cons]; omega
    · exact signN_le (c :: r)
theorem Sc.total : ∀ (k : Nat) (l : List UInt8) (pos : Nat), l.length ≤ k → ∃ ts e, Sc l pos ts e := by
  intro k
  induction k with
  | zero =>
    intro l pos h
    obtain rfl : l = [] := by cases l with | nil => rfl | cons => simp at h
    exact ⟨_, _, .fin [] pos rfl⟩
  | succ k ih =>
    intro l pos h
    by_cases h0 : l.drop (skipC false l) = []
    · exact ⟨_, _, .fin l pos h0⟩
    · cases hok : (tokL (l.drop (skipC false l))).ok
      · exact ⟨_, _, .bad l pos h0 hok⟩
      · have h1 := tok_pos hok
        obtain ⟨ts, e, hs⟩ := ih ((l.drop (skipC false l)).drop (tokL (l.drop (skipC false l))).n) (pos + skipC false l + (tokL (l.drop (skipC false l))).n) (by simp; omega)
        exact ⟨_, _, .tok l pos _ ts e h0 rfl hok hs⟩
end Go.Proofs.Ytaemahhcacolgaa.LX
