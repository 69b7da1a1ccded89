/- Plain laws of whole sources, on: the parts at an error; the written form. -/
import Derived.Test.YtaemahhcacolgaaLX3
namespace Go.Proofs.Ytaemahhcacolgaa.LX

theorem skip_app {l : List UInt8} (m : List UInt8) (h : l.drop (skipC false l) ≠ []) : skipC false (l ++ m) = skipC false l := by
  have h0 := skip_gap false l
  obtain ⟨b, _, h2⟩ := h0
  conv => lhs; rw [drop_split l (skipC false l), List.append_assoc]
  exact skip_swap h (skip_none fun d hd => by
    refine (h2 d ?_).2
    cases hq : l.drop (skipC false l) with
    | nil => exact absurd hq h
    | cons x y => rw [hq] at hd; simpa using hd)
/-- THE PARTS AT AN ERROR. -/
theorem Sc.cut {l : List UInt8} {pos p : Nat} {ts : List Tok} (h : Sc l pos ts (some p)) :
    ∃ k, p = pos + k ∧ k < l.length ∧ (∃ us, Sc (l.take k) pos us none) ∧ (∃ us, Sc (l.drop k) 0 us (some 0)) ∧ ∀ m, ∃ us, Sc (l ++ 10 :: m) pos us (some p) := by
  generalize he : (some p : Option Nat) = e at h
  induction h with
  | fin => cases he
  | bad l pos h0 h1 =>
    obtain rfl := Option.some.inj he
    have hs := skipC_le false l
    have hlt : skipC false l < l.length := by
      rcases Nat.lt_or_ge (skipC false l) l.length with q | q
      · exact q
      · exact absurd (List.drop_eq_nil_of_le q) h0
    refine ⟨skipC false l, rfl, hlt, ?_, ?_, fun m => ?_⟩
    · obtain ⟨b, g1, g2⟩ := skip_parts l
      obtain rfl := g2 h0
      have := gap_app false false _ [] g1
      rw [List.append_nil] at this
      refine ⟨_, .fin _ pos ?_⟩
      rw [this]
      exact List.drop_eq_nil_of_le (by simp)
    · have := Sc.bad (l.drop (skipC false l)) 0 (by rw [skip_head]; exact h0) (by rw [skip_head]; exact h1)
      rw [skip_head] at this
      exact ⟨_, this⟩
    · have e1 := skip_app (10 :: m) h0
      have e2 : (l ++ 10 :: m).drop (skipC false l) = l.drop (skipC false l) ++ 10 :: m := List.drop_append_of_le_length (by omega)
      have := Sc.bad (l ++ 10 :: m) pos (by rw [e1, e2]; simp) (by rw [e1, e2, tok_line h0]; exact h1)
      rw [e1] at this
      exact ⟨_, this⟩
  | tok l pos r ts e h0 h1 h2 h3 ih =>
    subst h1 he
    obtain ⟨k, rfl, hk, ⟨us, hu⟩, ⟨vs, hv⟩, hm⟩ := ih rfl
    have hn := tok_le h2
    obtain ⟨rr, hrr⟩ : ∃ rr, rr = tokL (l.drop (skipC false l)) := ⟨_, rfl⟩
    obtain ⟨rest, hrest⟩ : ∃ rest, rest = (l.drop (skipC false l)).drop rr.n := ⟨_, rfl⟩
    rw [← hrr] at hk hu hv hm hn h2 h3 ⊢
    rw [← hrest] at hk hu hv hm
    simp only [List.length_drop] at hn
    have hs := skipC_le false l
    have hrl : rest.length = l.length - skipC false l - rr.n := by rw [hrest]; simp; omega
    have e0 : l.drop (skipC false l) = (l.drop (skipC false l)).take rr.n ++ rest := by rw [hrest]; exact drop_split _ _
    have eL : l = l.take (skipC false l) ++ ((l.drop (skipC false l)).take rr.n ++ rest) := by rw [← e0]; exact drop_split _ _
    obtain ⟨A, hA⟩ : ∃ A, A = l.take (skipC false l) := ⟨_, rfl⟩
    obtain ⟨T, hT⟩ : ∃ T, T = (l.drop (skipC false l)).take rr.n := ⟨_, rfl⟩
    have hAl : A.length = skipC false l := by rw [hA]; exact take_len false
    have hTl : T.length = rr.n := by rw [hT]; simp; omega
    have eC : l.take (skipC false l + rr.n + k) = A ++ (T ++ rest.take k) := by
      rw [show skipC false l + rr.n + k = A.length + (T.length + k) by omega]
      conv => lhs; rw [eL, ← hA, ← hT]
      rw [List.take_length_add_append, List.take_length_add_append]
    have eD : l.drop (skipC false l + rr.n + k) = rest.drop k := by
      rw [show skipC false l + rr.n + k = A.length + (T.length + k) by omega]
      conv => lhs; rw [eL, ← hA, ← hT]
      rw [List.drop_length_add_append, List.drop_length_add_append]
    have hTok : tokL (T ++ rest.take k) = rr := by
      have : T ++ rest.take k = (l.drop (skipC false l)).take (rr.n + k) := by
        conv => rhs; rw [e0, ← hT]
        rw [← hTl, List.take_length_add_append]
      rw [this, hrr]
      exact tok_take (by rw [← hrr]; exact h2) (by omega)
    refine ⟨skipC false l + rr.n + k, by omega, by omega, ?_, ?_, fun m => ?_⟩
    · rw [eC]
      have hsk : skipC false (A ++ (T ++ rest.take k)) = skipC false l := by
        rw [hA]; refine skip_swap h0 ?_
        have := skip_tok (l := T ++ rest.take k) (by rw [hTok]; exact h2) []
        rwa [List.append_nil] at this
      have eF : (A ++ (T ++ rest.take k)).drop (skipC false l) = T ++ rest.take k := by rw [← hAl, List.drop_left]
      exact ⟨_, Sc.tok (A ++ (T ++ rest.take k)) pos rr us none (by rw [hsk, eF]; intro q; have := congrArg tokL q; rw [hTok] at this; rw [this] at h2; simp [tokL] at h2) (by rw [hsk, eF]; exact hTok) h2
        (by rw [hsk, eF, ← hTl, List.drop_left]; rw [hTl]; exact hu)⟩
    · rw [eD]; exact ⟨_, hv⟩
    · obtain ⟨ws, hw⟩ := hm m
      have e1 := skip_app (10 :: m) h0
      have e2 : (l ++ 10 :: m).drop (skipC false l) = l.drop (skipC false l) ++ 10 :: m := List.drop_append_of_le_length (by omega)
      have hne : l.drop (skipC false l) ≠ [] := h0
      exact ⟨_, Sc.tok (l ++ 10 :: m) pos rr ws _ (by rw [e1, e2]; simp) (by rw [e1, e2, tok_line hne, hrr]) h2
        (by rw [e1, e2, List.drop_append_of_le_length (by simp; omega), ← hrest]; exact hw)⟩
/-- What is written of a token: nothing of the end and of no kind. -/
def wrO (t : Tok) : Option (List UInt8) := if t.kind = 0 ∨ t.kind = 1 ∨ t.kind = 3 then some t.text else if t.kind = 2 then some (34 :: (t.text ++ [34])) else none
def writeL (ts : List Tok) : List UInt8 := Lib.join (ts.filterMap wrO) [32]
theorem wrO_wr {t : Tok} (h0 : 0 ≤ t.kind) (h1 : t.kind ≤ 3) : wrO t = some (wr t) := by
  unfold wrO wr
  by_cases g : t.kind = 2
  · rw [if_neg (by omega), if_pos g, if_pos g]
  · rw [if_pos (by omega), if_neg g]
/-- What stands behind the first word: each further one behind a blank. -/
theorem back_tail {l : List UInt8} {pos : Nat} {ts : List Tok} (h : Sc l pos ts none) : ∀ p, ∃ us, Sc (Lib.joinTail [32] (ts.filterMap wrO)) p us none ∧ us.map (fun t => (t.kind, t.text)) = ts.map (fun t => (t.kind, t.text)) := by
  generalize he : (none : Option Nat) = e at h
  induction h with
  | fin l pos h0 => exact fun p => ⟨_, .fin [] p rfl, rfl⟩
  | bad => cases he
  | tok l pos r ts e h0 h1 h2 h3 ih =>
    subst h1 he
    intro p
    obtain ⟨w1, w2, w3, w4⟩ := tok_wr (p := pos + skipC false l) h2
    have hn := tok_le h2
    have hself := tok_take h2 (Nat.le_refl _)
    obtain ⟨rr, hrr⟩ : ∃ rr, rr = tokL (l.drop (skipC false l)) := ⟨_, rfl⟩
    rw [← hrr] at w1 w2 w3 w4 h2 hself hn ⊢
    rw [List.filterMap_cons_some (wrO_wr w3 w4)]
    obtain ⟨W, hW⟩ : ∃ W, W = wr ⟨rr.kind, rr.text, pos + skipC false l⟩ := ⟨_, rfl⟩
    rw [← hW] at w1 w2 ⊢
    rw [← w1] at hself
    have eJ : Lib.joinTail [32] (W :: ts.filterMap wrO) = 32 :: (W ++ Lib.joinTail [32] (ts.filterMap wrO)) := by simp [Lib.joinTail]
    rw [eJ]
    obtain ⟨us, hu1, hu2⟩ := ih rfl (p + 1 + rr.n)
    have hTok : tokL (W ++ Lib.joinTail [32] (ts.filterMap wrO)) = rr := by
      rw [tok_blank (by rw [hself]; exact h2) (fun c hc => ?_), hself]
      left
      cases hq : ts.filterMap wrO with
      | nil => rw [hq] at hc; simp [Lib.joinTail] at hc
      | cons x y => rw [hq] at hc; simpa [Lib.joinTail, eq_comm] using hc
    have hsk : skipC false (32 :: (W ++ Lib.joinTail [32] (ts.filterMap wrO))) = 1 := by
      have := skip_tok (l := W ++ Lib.joinTail [32] (ts.filterMap wrO)) (by rw [hTok]; exact h2) []
      rw [List.append_nil] at this
      rw [skipC_f, if_pos (show on blankB 32 = true from rfl), this]
    refine ⟨⟨rr.kind, rr.text, p + 1⟩ :: us, ?_, by simp [hu2]⟩
    have := Sc.tok (32 :: (W ++ Lib.joinTail [32] (ts.filterMap wrO))) p rr us none (by rw [hsk]; intro q; have q : W ++ Lib.joinTail [32] (ts.filterMap wrO) = [] := q; have := congrArg tokL q; rw [hTok] at this; rw [this] at h2; simp [tokL] at h2)
      (by rw [hsk]; exact hTok) h2 (by rw [hsk, ← w2]; show Sc ((W ++ _).drop W.length) _ _ _; rw [List.drop_left, w2]; exact hu1)
    rw [hsk] at this
    exact this
/-- THE WRITTEN FORM HAS THE SAME TOKENS. -/
theorem Sc.back {l : List UInt8} {pos : Nat} {ts : List Tok} (h : Sc l pos ts none) : ∃ us, Sc (writeL ts) 0 us none ∧ us.map (fun t => (t.kind, t.text)) = ts.map (fun t => (t.kind, t.text)) := by
  have key : ∀ p, ∃ us, Sc (Lib.joinTail [32] (ts.filterMap wrO)) p us none ∧ us.map (fun t => (t.kind, t.text)) = ts.map (fun t => (t.kind, t.text)) := back_tail h
  cases hq : ts.filterMap wrO with
  | nil =>
    obtain ⟨us, h1, h2⟩ := key 0
    rw [hq] at h1
    unfold writeL
    rw [hq]
    exact ⟨us, h1, h2⟩
  | cons x y =>
    obtain ⟨us, h1, h2⟩ := key 0
    rw [hq] at h1
    unfold writeL
    rw [hq, Lib.join_cons]
    have e1 : Lib.joinTail [32] (x :: y) = 32 :: (x ++ Lib.joinTail [32] y) := by simp [Lib.joinTail]
    rw [e1] at h1
    obtain ⟨Y, hY⟩ : ∃ Y, Y = x ++ Lib.joinTail [32] y := ⟨_, rfl⟩
    rw [← hY] at h1 ⊢
    -- a blank ahead of a source moves its tokens alone
    have strip : ∀ {us : List Tok}, Sc (32 :: Y) 0 us none → ∃ vs, Sc Y 1 vs none ∧ vs.map (fun t => (t.kind, t.text)) = us.map (fun t => (t.kind, t.text)) := by
      intro us hs
      have e2 : skipC false (32 :: Y) = skipC false Y + 1 := by rw [skipC_f, if_pos (show on blankB 32 = true from rfl)]
      cases hs with
      | fin _ _ h0 =>
        rw [e2, List.drop_succ_cons] at h0
        exact ⟨_, .fin Y 1 h0, rfl⟩
      | tok _ _ r ts e h0 h1 h2 h3 =>
        rw [e2, List.drop_succ_cons] at h0 h1 h3
        refine ⟨_, .tok Y 1 r ts none h0 h1 h2 (by rw [show 1 + skipC false Y + r.n = 0 + (skipC false Y + 1) + r.n by omega]; exact h3), rfl⟩
    obtain ⟨vs, h3, h4⟩ := strip h1
    obtain ⟨ws, f, h5, h6, h7⟩ := h3.move 0
    obtain rfl : f = none := h7.1 rfl
    exact ⟨ws, h5, by rw [h6, h4, h2]⟩
end Go.Proofs.Ytaemahhcacolgaa.LX
