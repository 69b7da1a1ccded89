/- Plain laws of the tokens: what stands ahead of and behind a token does not matter. -/
import Derived.Test.YtaemahhcacolgaaLX
namespace Go.Proofs.Ytaemahhcacolgaa.LX

theorem get_take {l : List UInt8} {k j : Nat} (h : j < k) : (l.take k)[j]? = l[j]? := by rw [List.getElem?_take, if_pos h]
theorem numN_take (l : List UInt8) (k : Nat) (h : numN l ≤ k) : numN (l.take k) = numN l := by
  have h0 : run (on digitB) l ≤ numN l := by unfold numN; dsimp only; split <;> omega
  have e0 := run_take (on digitB) l k (by omega)
  unfold numN at h ⊢
  dsimp only at h ⊢
  rw [e0]
  by_cases g : l[run (on digitB) l]? = some 46 ∧ ∃ d, l[run (on digitB) l + 1]? = some d ∧ on digitB d = true
  · rw [if_pos g] at h ⊢
    obtain ⟨g1, d, g2, g3⟩ := g
    have hp : 0 < run (on digitB) (l.drop (run (on digitB) l + 1)) := by
      have e : (l.drop (run (on digitB) l + 1))[0]? = some d := by simpa using g2
      cases hq : l.drop (run (on digitB) l + 1) with
      | nil => rw [hq] at e; simp at e
      | cons x y => rw [hq] at e; obtain rfl : x = d := by simpa using e
                    simp [run, g3]
    rw [if_pos ⟨by rw [get_take (by omega)]; exact g1, d, by rw [get_take (by omega)]; exact g2, g3⟩]
    rw [← run_take (on digitB) (l.drop (run (on digitB) l + 1)) (k - (run (on digitB) l + 1)) (by omega), List.drop_take]
  · rw [if_neg g]
    have hn : ¬ ((l.take k)[run (on digitB) l]? = some 46 ∧ ∃ d, (l.take k)[run (on digitB) l + 1]? = some d ∧ on digitB d = true) := by
      rintro ⟨g1, d, g2, g3⟩
      refine g ⟨?_, d, ?_, g3⟩
      · rw [List.getElem?_take] at g1; split at g1
        · exact g1
        · cases g1
      · rw [List.getElem?_take] at g2; split at g2
        · exact g2
        · cases g2
    rw [if_neg hn]
theorem numN_app (l m : List UInt8) (h : ∀ c, m.head? = some c → on digitB c = false ∧ c ≠ 46) : numN (l ++ m) = numN l := by
  have e0 := run_app (on digitB) l m (fun c hc _ => (h c hc).1)
  have hl := run_le (on digitB) l
  unfold numN
  dsimp only
  rw [e0]
  have hm : ∀ c, m[0]? = some c → on digitB c = false ∧ c ≠ 46 := fun c hc => h c (by rw [List.head?_eq_getElem?]; exact hc)
  by_cases g : l[run (on digitB) l]? = some 46 ∧ ∃ d, l[run (on digitB) l + 1]? = some d ∧ on digitB d = true
  · obtain ⟨g1, d, g2, g3⟩ := id g
    have hlt := (List.getElem?_eq_some_iff.1 g2).1
    rw [if_pos g, if_pos ⟨by rw [List.getElem?_append_left (by omega)]; exact g1, d, by rw [List.getElem?_append_left (by omega)]; exact g2, g3⟩]
    rw [List.drop_append_of_le_length (by omega), run_app (on digitB) _ m (fun c hc _ => (h c hc).1)]
  · have hn : ¬ ((l ++ m)[run (on digitB) l]? = some 46 ∧ ∃ d, (l ++ m)[run (on digitB) l + 1]? = some d ∧ on digitB d = true) := by
      rintro ⟨g1, d, g2, g3⟩
      by_cases q : run (on digitB) l < l.length
      · rw [List.getElem?_append_left q] at g1
        by_cases q2 : run (on digitB) l + 1 < l.length
        · rw [List.getElem?_append_left q2] at g2
          exact g ⟨g1, d, g2, g3⟩
        · rw [List.getElem?_append_right (by omega), show run (on digitB) l + 1 - l.length = 0 by omega] at g2
          rw [(hm d g2).1] at g3; cases g3
      · rw [List.getElem?_append_right (by omega), show run (on digitB) l - l.length = 0 by omega] at g1
        exact (hm 46 g1).2 rfl
    rw [if_neg g, if_neg hn]
theorem signN_cons (c : UInt8) (r : List UInt8) : signN (c :: r) = if c = 60 ∨ c = 62 ∨ c = 61 ∨ c = 33 then (if r.head? = some 61 then 2 else if c = 33 then 0 else 1)
    else if c = 123 ∨ c = 125 ∨ c = 40 ∨ c = 41 ∨ c = 44 ∨ c = 59 ∨ c = 58 ∨ c = 43 ∨ c = 45 ∨ c = 42 ∨ c = 47 ∨ c = 37 then 1 else 0 := rfl
theorem signN_take (l : List UInt8) (k : Nat) (h : signN l ≤ k) (h0 : 0 < signN l) : signN (l.take k) = signN l := by
  cases l with
  | nil => simp [signN] at h0
  | cons c r =>
    obtain ⟨k, rfl⟩ : ∃ j, k = j + 1 := ⟨k - 1, by omega⟩
    rw [List.take_succ_cons]
    rw [signN_cons] at h h0
    rw [signN_cons, signN_cons]
    by_cases g : c = 60 ∨ c = 62 ∨ c = 61 ∨ c = 33
    · rw [if_pos g] at h h0
      rw [if_pos g, if_pos g]
      by_cases q : r.head? = some 61
      · rw [if_pos q] at h
        rw [if_pos q, if_pos]
        cases r with
        | nil => simp at q
        | cons d r => obtain ⟨k, rfl⟩ : ∃ j, k = j + 1 := ⟨k - 1, by omega⟩
                      simpa using q
      · rw [if_neg q, if_neg]
        cases r with
        | nil => simp
        | cons d r =>
          cases k with
          | zero => simp
          | succ k => simpa using q
    · rw [if_neg g, if_neg g]
theorem signN_app (c : UInt8) (r m : List UInt8) (h : m.head? ≠ some 61) : signN (c :: r ++ m) = signN (c :: r) := by
  rw [List.cons_append]
  rw [signN_cons, signN_cons]
  have e : (r ++ m).head? = some 61 ↔ r.head? = some 61 := by
    cases r with
    | nil => simp [h]
    | cons d r => simp
  simp only [e]
/-- What begins a token is no white space and no comment. -/
theorem tok_head {l : List UInt8} (h : (tokL l).ok = true) : ∃ c r, l = c :: r ∧ on blankB c = false ∧ c ≠ 35 := by
  cases l with
  | nil => simp [tokL] at h
  | cons c r =>
    refine ⟨c, r, rfl, ?_⟩
    have key : on blankB c = true ∨ c = 35 → (tokL (c :: r)).ok = false := by
      intro q
      have q' : c = 9 ∨ c = 10 ∨ c = 13 ∨ c = 32 ∨ c = 35 := by
        rcases q with q | q
        · have q : (decide ((c.toNat : Int) = 9) || decide ((c.toNat : Int) = 10) || decide ((c.toNat : Int) = 13) || decide ((c.toNat : Int) = 32)) = true := q
          simp only [Bool.or_eq_true, decide_eq_true_eq] at q
          rcases q with ((q | q) | q) | q
          · exact .inl (UInt8.toNat_inj.1 (by show c.toNat = 9; omega))
          · exact .inr (.inl (UInt8.toNat_inj.1 (by show c.toNat = 10; omega)))
          · exact .inr (.inr (.inl (UInt8.toNat_inj.1 (by show c.toNat = 13; omega))))
          · exact .inr (.inr (.inr (.inl (UInt8.toNat_inj.1 (by show c.toNat = 32; omega)))))
        · exact .inr (.inr (.inr (.inr q)))
      rcases q' with rfl | rfl | rfl | rfl | rfl <;> rfl
    cases hb : on blankB c
    · refine ⟨rfl, fun e => ?_⟩
      rw [key (.inr e)] at h; cases h
    · rw [key (.inl hb)] at h; cases h
theorem tok_take {l : List UInt8} {k : Nat} (h : (tokL l).ok = true) (hk : (tokL l).n ≤ k) : tokL (l.take k) = tokL l := by
  have hp := tok_pos h
  cases l with
  | nil => simp [tokL] at h
  | cons c r =>
    obtain ⟨k, rfl⟩ : ∃ j, k = j + 1 := ⟨k - 1, by omega⟩
    have e1 : (c :: r).take (k + 1) = c :: r.take k := rfl
    rcases tokL_cases c r with ⟨g, e⟩ | ⟨g1, g, e⟩ | ⟨g1, g2, g, e⟩ | ⟨g1, g2, g3, e⟩ <;> rw [e] at h hk hp ⊢
    · have e2 := run_take (on nameB) (c :: r) (k + 1) hk
      rw [e1] at e2 ⊢
      rcases tokL_cases c (r.take k) with ⟨_, f⟩ | ⟨q, _⟩ | ⟨q, _⟩ | ⟨q, _⟩
      · rw [f, e2, ← e1, List.take_take, Nat.min_eq_left hk]
      all_goals (rw [g] at q; cases q)
    · have e2 := numN_take (c :: r) (k + 1) hk
      rw [e1] at e2 ⊢
      rcases tokL_cases c (r.take k) with ⟨q, _⟩ | ⟨_, _, f⟩ | ⟨_, q, _⟩ | ⟨_, q, _⟩
      · rw [g1] at q; cases q
      · rw [f, e2, ← e1, List.take_take, Nat.min_eq_left hk]
      all_goals (rw [g] at q; cases q)
    · have hk : run (on strB) r + 2 ≤ k + 1 := hk
      have e2 := run_take (on strB) r k (by omega)
      rw [e1]
      rcases tokL_cases c (r.take k) with ⟨q, _⟩ | ⟨_, q, _⟩ | ⟨_, _, _, f⟩ | ⟨_, _, q, _⟩
      · rw [g1] at q; cases q
      · rw [g2] at q; cases q
      · rw [f, e2, get_take (by omega), List.take_take, Nat.min_eq_left (by omega)]
      · exact absurd g q
    · have hp : 0 < signN (c :: r) := hp
      have e2 := signN_take (c :: r) (k + 1) hk hp
      rw [e1] at e2 ⊢
      rcases tokL_cases c (r.take k) with ⟨q, _⟩ | ⟨_, q, _⟩ | ⟨_, _, q, _⟩ | ⟨_, _, _, f⟩
      · rw [g1] at q; cases q
      · rw [g2] at q; cases q
      · exact absurd q g3
      · rw [f, e2, ← e1, List.take_take, Nat.min_eq_left hk]
/-- Behind a token something may stand that continues no token. -/
theorem tok_app {l m : List UInt8} (hne : l ≠ []) (hm : ∀ c, m.head? = some c → on nameB c = false ∧ on digitB c = false ∧ c ≠ 46 ∧ c ≠ 61 ∧ c ≠ 34 ∧ ((tokL l).ok = true ∨ on strB c = false)) : tokL (l ++ m) = tokL l := by
  cases l with
  | nil => exact absurd rfl hne
  | cons c r =>
    have e1 : c :: r ++ m = c :: (r ++ m) := rfl
    rcases tokL_cases c r with ⟨g, e⟩ | ⟨g1, g, e⟩ | ⟨g1, g2, g, e⟩ | ⟨g1, g2, g3, e⟩
    · have e2 := run_app (on nameB) (c :: r) m (fun d hd _ => (hm d hd).1)
      have hl := run_le (on nameB) (c :: r)
      rw [e1] at e2 ⊢
      rcases tokL_cases c (r ++ m) with ⟨_, f⟩ | ⟨q, _⟩ | ⟨q, _⟩ | ⟨q, _⟩
      · rw [f, e, e2, ← e1, List.take_append_of_le_length hl]
      all_goals (rw [g] at q; cases q)
    · have e2 := numN_app (c :: r) m (fun d hd => ⟨(hm d hd).2.1, (hm d hd).2.2.1⟩)
      have hl := numN_le (c :: r)
      rw [e1] at e2 ⊢
      rcases tokL_cases c (r ++ m) with ⟨q, _⟩ | ⟨_, _, f⟩ | ⟨_, q, _⟩ | ⟨_, q, _⟩
      · rw [g1] at q; cases q
      · rw [f, e, e2, ← e1, List.take_append_of_le_length hl]
      all_goals (rw [g] at q; cases q)
    · have hl := run_le (on strB) r
      have hb : run (on strB) r = r.length → (tokL (c :: r)).ok = false := fun h => by
        rw [e]
        exact decide_eq_false (fun q => by rw [h, List.getElem?_eq_none (Nat.le_refl _)] at q; cases q.1)
      have e2 := run_app (on strB) r m (fun d hd hq => by
        rcases (hm d hd).2.2.2.2.2 with q | q
        · rw [hb hq] at q; cases q
        · exact q)
      rw [e1]
      rcases tokL_cases c (r ++ m) with ⟨q, _⟩ | ⟨_, q, _⟩ | ⟨_, _, _, f⟩ | ⟨_, _, q, _⟩
      · rw [g1] at q; cases q
      · rw [g2] at q; cases q
      · rw [f, e, e2, List.take_append_of_le_length hl]
        by_cases h : run (on strB) r < r.length
        · rw [List.getElem?_append_left h]
        · have h' : run (on strB) r = r.length := by omega
          rw [h', List.getElem?_append_right (Nat.le_refl _), Nat.sub_self, List.getElem?_eq_none (Nat.le_refl _)]
          congr 1
          rw [decide_eq_decide]
          constructor
          · intro q
            exact absurd rfl (hm 34 (by rw [List.head?_eq_getElem?]; exact q.1)).2.2.2.2.1
          · intro q; cases q.1
      · exact absurd g q
    · have e2 := signN_app c r m (fun h => (hm 61 h).2.2.2.1 rfl)
      have hl := signN_le (c :: r)
      rw [e1] at e2 ⊢
      rcases tokL_cases c (r ++ m) with ⟨q, _⟩ | ⟨_, q, _⟩ | ⟨_, _, q, _⟩ | ⟨_, _, _, f⟩
      · rw [g1] at q; cases q
      · rw [g2] at q; cases q
      · exact absurd q g3
      · rw [f, e, e2, ← e1, List.take_append_of_le_length hl]
/-- White space behind a token. -/
theorem tok_blank {l m : List UInt8} (h : (tokL l).ok = true) (hm : ∀ c, m.head? = some c → c = 32 ∨ c = 9 ∨ c = 10) : tokL (l ++ m) = tokL l := by
  refine tok_app (fun e => by rw [e] at h; simp [tokL] at h) (fun c hc => ?_)
  rcases hm c hc with rfl | rfl | rfl <;> exact ⟨rfl, rfl, by decide, by decide, by decide, .inl h⟩
/-- A line feed behind whatever stands there. -/
theorem tok_line {l m : List UInt8} (hne : l ≠ []) : tokL (l ++ 10 :: m) = tokL l :=
  tok_app hne (fun c hc => by obtain rfl : (10 : UInt8) = c := by simpa using hc
                              exact ⟨rfl, rfl, by decide, by decide, by decide, .inr rfl⟩)

/-- White space and comments alone; in which state they end. -/
def gapF : Bool → List UInt8 → Option Bool
  | b, [] => some b
  | false, c :: l => if on blankB c then gapF false l else if c = 35 then gapF true l else none
  | true, c :: l => if c = 10 then gapF false l else gapF true l
theorem skipC_f (c : UInt8) (l : List UInt8) : skipC false (c :: l) = if on blankB c then skipC false l + 1 else if c = 35 then skipC true l + 1 else 0 := rfl
theorem skipC_t (c : UInt8) (l : List UInt8) : skipC true (c :: l) = if c = 10 then skipC false l + 1 else skipC true l + 1 := rfl
theorem gap_app : ∀ (b b' : Bool) (g l : List UInt8), gapF b g = some b' → skipC b (g ++ l) = g.length + skipC b' l
  | b, b', [], l, h => by
    obtain rfl : b = b' := by cases b <;> simpa [gapF] using h
    simp
  | false, b', c :: g, l, h => by
    simp only [List.cons_append, List.length_cons]
    rw [skipC_f]
    unfold gapF at h
    split at h
    · rename_i q
      rw [if_pos q, gap_app false b' g l h]; omega
    · rename_i q
      rw [if_neg q]
      split at h
      · rename_i q2
        rw [if_pos q2, gap_app true b' g l h]; omega
      · cases h
  | true, b', c :: g, l, h => by
    simp only [List.cons_append, List.length_cons]
    rw [skipC_t]
    unfold gapF at h
    split at h
    · rename_i q
      rw [if_pos q, gap_app false b' g l h]; omega
    · rename_i q
      rw [if_neg q, gap_app true b' g l h]; omega
theorem skip_gap : ∀ (b : Bool) (l : List UInt8), ∃ b', gapF b (l.take (skipC b l)) = some b' ∧ (∀ d, (l.drop (skipC b l)).head? = some d → b' = false ∧ on blankB d = false ∧ d ≠ 35)
  | b, [] => ⟨b, by cases b <;> rfl, fun d h => by cases b <;> simp [skipC] at h⟩
  | false, c :: l => by
    unfold skipC
    split
    · rename_i q
      obtain ⟨b', h1, h2⟩ := skip_gap false l
      refine ⟨b', ?_, h2⟩
      rw [List.take_succ_cons]; unfold gapF; rw [if_pos q]; exact h1
    · rename_i q
      split
      · rename_i q2
        obtain ⟨b', h1, h2⟩ := skip_gap true l
        refine ⟨b', ?_, h2⟩
        rw [List.take_succ_cons]; unfold gapF; rw [if_neg q, if_pos q2]; exact h1
      · rename_i q2
        refine ⟨false, rfl, fun d hd => ?_⟩
        obtain rfl : c = d := by simpa using hd
        exact ⟨rfl, by simpa using q, q2⟩
  | true, c :: l => by
    unfold skipC
    split
    · rename_i q
      obtain ⟨b', h1, h2⟩ := skip_gap false l
      refine ⟨b', ?_, h2⟩
      rw [List.take_succ_cons]; unfold gapF; rw [if_pos q]; exact h1
    · rename_i q
      obtain ⟨b', h1, h2⟩ := skip_gap true l
      refine ⟨b', ?_, h2⟩
      rw [List.take_succ_cons]; unfold gapF; rw [if_neg q]; exact h1
theorem gap_join : ∀ (a b c : Bool) (g h : List UInt8), gapF a g = some b → gapF b h = some c → gapF a (g ++ h) = some c
  | a, b, c, [], h, h1, h2 => by
    obtain rfl : a = b := by cases a <;> simpa [gapF] using h1
    simpa using h2
  | false, b, c, x :: g, h, h1, h2 => by
    rw [List.cons_append]
    unfold gapF at h1 ⊢
    split at h1
    · rename_i q; rw [if_pos q]; exact gap_join false b c g h h1 h2
    · rename_i q
      rw [if_neg q]
      split at h1
      · rename_i q2; rw [if_pos q2]; exact gap_join true b c g h h1 h2
      · cases h1
  | true, b, c, x :: g, h, h1, h2 => by
    rw [List.cons_append]
    unfold gapF at h1 ⊢
    split at h1
    · rename_i q; rw [if_pos q]; exact gap_join false b c g h h1 h2
    · rename_i q; rw [if_neg q]; exact gap_join true b c g h h1 h2
theorem skip_none {l : List UInt8} (h : ∀ d, l.head? = some d → on blankB d = false ∧ d ≠ 35) : skipC false l = 0 := by
  cases l with
  | nil => rfl
  | cons d l =>
    obtain ⟨h1, h2⟩ := h d rfl
    unfold skipC; rw [if_neg (by rw [h1]; simp), if_neg h2]
theorem skip_tok {l : List UInt8} (h : (tokL l).ok = true) (m : List UInt8) : skipC false (l ++ m) = 0 := by
  obtain ⟨c, r, rfl, h1, h2⟩ := tok_head h
  exact skip_none (fun d hd => by obtain rfl : c = d := by simpa using hd
                                  exact ⟨h1, h2⟩)
end Go.Proofs.Ytaemahhcacolgaa.LX
