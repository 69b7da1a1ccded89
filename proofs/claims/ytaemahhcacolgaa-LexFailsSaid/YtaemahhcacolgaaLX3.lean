/- Plain laws of whole sources: written again, with white space put in, cut at an error. -/
import Derived.Test.YtaemahhcacolgaaLX2
import Derived.Lib.Join
namespace Go.Proofs.Ytaemahhcacolgaa.LX

def Tok.shift (d : Nat) (t : Tok) : Tok := { t with pos := t.pos + d }
theorem Sc.shift {l : List UInt8} {pos : Nat} {ts : List Tok} {e : Option Nat} (h : Sc l pos ts e) (d : Nat) : Sc l (pos + d) (ts.map (Tok.shift d)) (e.map (· + d)) := by
  induction h with
  | fin l pos h0 =>
    have e : pos + l.length + d = pos + d + l.length := by omega
    show Sc l (pos + d) [⟨4, [], pos + l.length + d⟩] none
    rw [e]; exact .fin l _ h0
  | bad l pos h0 h1 =>
    have e : pos + skipC false l + d = pos + d + skipC false l := by omega
    show Sc l (pos + d) [] (some (pos + skipC false l + d))
    rw [e]; exact .bad l _ h0 h1
  | tok l pos r ts e h0 h1 h2 _ ih =>
    have e1 : pos + skipC false l + d = pos + d + skipC false l := by omega
    show Sc l (pos + d) (⟨r.kind, r.text, pos + skipC false l + d⟩ :: ts.map (Tok.shift d)) (e.map (· + d))
    rw [show pos + skipC false l + r.n + d = pos + d + skipC false l + r.n by omega] at ih
    rw [e1]
    exact .tok l _ r _ _ h0 h1 h2 ih
theorem Sc.move {l : List UInt8} {pos : Nat} {ts : List Tok} {e : Option Nat} (h : Sc l pos ts e) (p : Nat) : ∃ us f, Sc l p us f ∧ us.map (fun t => (t.kind, t.text)) = ts.map (fun t => (t.kind, t.text)) ∧ (e = none ↔ f = none) := by
  induction h generalizing p with
  | fin l pos h0 => exact ⟨_, _, .fin l p h0, rfl, by simp⟩
  | bad l pos h0 h1 => exact ⟨_, _, .bad l p h0 h1, rfl, by simp⟩
  | tok l pos r ts e h0 h1 h2 _ ih =>
    obtain ⟨us, f, k1, k2, k3⟩ := ih (p + skipC false l + r.n)
    exact ⟨_, _, .tok l p r us f h0 h1 h2 k1, by simp [k2], k3⟩
/-- A token as it is written. -/
def wr (t : Tok) : List UInt8 := if t.kind = 2 then 34 :: (t.text ++ [34]) else t.text
theorem tok_wr {l : List UInt8} {p : Nat} (h : (tokL l).ok = true) : wr ⟨(tokL l).kind, (tokL l).text, p⟩ = l.take (tokL l).n ∧ (wr ⟨(tokL l).kind, (tokL l).text, p⟩).length = (tokL l).n ∧ 0 ≤ (tokL l).kind ∧ (tokL l).kind ≤ 3 := by
  have hn := tok_le h
  cases l with
  | nil => simp [tokL] at h
  | cons c r =>
    rcases tokL_cases c r with ⟨g, e⟩ | ⟨_, g, e⟩ | ⟨_, _, g, e⟩ | ⟨_, _, _, e⟩ <;> rw [e] at h hn ⊢
    · refine ⟨rfl, ?_, by show (0 : Int) ≤ 0; decide, by show (0 : Int) ≤ 3; decide⟩
      show ((c :: r).take _).length = _
      rw [List.length_take]; exact Nat.min_eq_left hn
    · refine ⟨rfl, ?_, by show (0 : Int) ≤ 1; decide, by show (1 : Int) ≤ 3; decide⟩
      show ((c :: r).take _).length = _
      rw [List.length_take]; exact Nat.min_eq_left hn
    · have hq := (of_decide_eq_true h).1
      have hl := (List.getElem?_eq_some_iff.1 hq).1
      subst g
      refine ⟨?_, ?_, by show (0 : Int) ≤ 2; decide, by show (2 : Int) ≤ 3; decide⟩
      · show 34 :: (r.take (run (on strB) r) ++ [34]) = (34 :: r).take (run (on strB) r + 2)
        rw [List.take_succ_cons, List.take_add_one, hq]; rfl
      · show (34 :: (r.take (run (on strB) r) ++ [34])).length = _
        simp; omega
    · refine ⟨rfl, ?_, by show (0 : Int) ≤ 3; decide, by show (3 : Int) ≤ 3; decide⟩
      show ((c :: r).take _).length = _
      rw [List.length_take]; exact Nat.min_eq_left hn
theorem drop_split (l : List UInt8) (a : Nat) : l = l.take a ++ l.drop a := (List.take_append_drop a l).symm
/-- What the search for a token finds, in two parts. -/
theorem skip_parts (l : List UInt8) : ∃ b, gapF false (l.take (skipC false l)) = some b ∧ (l.drop (skipC false l) ≠ [] → b = false) := by
  obtain ⟨b, h1, h2⟩ := skip_gap false l
  refine ⟨b, h1, fun hne => ?_⟩
  cases hd : l.drop (skipC false l) with
  | nil => exact absurd hd hne
  | cons x y => exact (h2 x (by rw [hd]; rfl)).1
theorem skip_head (l : List UInt8) : skipC false (l.drop (skipC false l)) = 0 := by
  obtain ⟨b, _, h2⟩ := skip_gap false l
  exact skip_none fun d hd => (h2 d hd).2
theorem take_len {l : List UInt8} (b : Bool) : (l.take (skipC b l)).length = skipC b l := by
  have := skipC_le b l
  rw [List.length_take]; omega
/-- Ahead of a token, the same gap with something else behind it. -/
theorem skip_swap {l m : List UInt8} (hne : l.drop (skipC false l) ≠ []) (hm : skipC false m = 0) : skipC false (l.take (skipC false l) ++ m) = skipC false l := by
  obtain ⟨b, h1, h2⟩ := skip_parts l
  obtain rfl := h2 hne
  rw [gap_app false false _ m h1, hm, take_len]; rfl
/-- Where the last token ends. -/
def lastEnd : Nat → List Tok → Nat
  | pos, [] => pos
  | pos, [_] => pos
  | _, t :: u :: ts => lastEnd (t.pos + (wr t).length) (u :: ts)
theorem Sc.ne {l : List UInt8} {pos : Nat} {ts : List Tok} (h : Sc l pos ts none) : ∃ t us, ts = t :: us := by
  cases h with
  | fin => exact ⟨_, _, rfl⟩
  | tok _ _ _ _ _ _ _ _ _ => exact ⟨_, _, rfl⟩
theorem Sc.lastEnd_le {l : List UInt8} {pos : Nat} {ts : List Tok} (h : Sc l pos ts none) : pos ≤ lastEnd pos ts ∧ lastEnd pos ts ≤ pos + l.length := by
  generalize he : (none : Option Nat) = e at h
  induction h with
  | fin l pos h0 => exact ⟨Nat.le_refl _, by simp [lastEnd]⟩
  | bad => cases he
  | tok l pos r ts e h0 h1 h2 h3 ih =>
    subst h1 he
    obtain ⟨t, us, rfl⟩ := h3.ne
    have hw := (tok_wr (p := pos + skipC false l) h2).2.1
    have hn := tok_le h2
    have := ih rfl
    show pos ≤ lastEnd (pos + skipC false l + (wr _).length) (t :: us) ∧ lastEnd (pos + skipC false l + (wr _).length) (t :: us) ≤ _
    rw [hw]
    have hs := skipC_le false l
    simp only [List.length_drop] at this hn
    omega
/-- WHITE SPACE IN FRONT OF A TOKEN. -/
theorem Sc.ins {l : List UInt8} {pos : Nat} {ts : List Tok} (h : Sc l pos ts none) {G : List UInt8} (hG0 : ∀ m : List UInt8, ∀ c, (G ++ m).head? = some c → c = 32 ∨ c = 9 ∨ c = 10) (hG : gapF false G = some false) : ∀ (i : Nat) t, ts[i]? = some t → (t.kind = 4 → gapF false (l.drop (lastEnd pos ts - pos)) = some false) →
    ∃ k, t.pos = pos + k ∧ k ≤ l.length ∧ Sc (l.take k ++ G ++ l.drop k) pos (ts.take i ++ (ts.drop i).map (Tok.shift G.length)) none := by
  generalize he : (none : Option Nat) = e at h
  induction h with
  | fin l pos h0 =>
    intro i t ht hk
    have hi : i = 0 := by
      have := (List.getElem?_eq_some_iff.1 ht).1
      simp at this; exact this
    subst hi
    obtain rfl : (⟨4, [], pos + l.length⟩ : Tok) = t := by simpa using ht
    have hg := hk rfl
    rw [show lastEnd pos [(⟨4, [], pos + l.length⟩ : Tok)] - pos = 0 by simp [lastEnd], List.drop_zero] at hg
    refine ⟨l.length, rfl, Nat.le_refl _, ?_⟩
    have hj := gap_join false false false l G hg hG
    have hs := gap_app false false (l ++ G) [] hj
    simp only [List.append_nil] at hs
    rw [List.take_length, List.drop_length, List.append_nil]
    have e1 : skipC false (l ++ G) = (l ++ G).length := by rw [hs]; simp [skipC]
    have := Sc.fin (l ++ G) pos (by rw [e1, List.drop_length])
    simpa [Tok.shift, Nat.add_assoc] using this
  | bad => cases he
  | tok l pos r ts e h0 h1 h2 h3 ih =>
    subst h1 he
    intro i t ht hk
    have hs := skipC_le false l
    have hn := tok_le h2
    have hw := (tok_wr (p := pos + skipC false l) h2).2.1
    cases i with
    | zero =>
      obtain rfl : (⟨(tokL (l.drop (skipC false l))).kind, (tokL (l.drop (skipC false l))).text, pos + skipC false l⟩ : Tok) = t := by simpa using ht
      refine ⟨skipC false l, rfl, hs, ?_⟩
      obtain ⟨b, g1, g2⟩ := skip_parts l
      obtain rfl := g2 h0
      have hj := gap_join false false false _ G g1 hG
      have e1 : skipC false (l.take (skipC false l) ++ G ++ l.drop (skipC false l)) = skipC false l + G.length := by
        rw [gap_app false false _ _ hj, skip_head, List.length_append, take_len]; rfl
      have e2 : (l.take (skipC false l) ++ G ++ l.drop (skipC false l)).drop (skipC false l + G.length) = l.drop (skipC false l) := by
        rw [List.drop_append_of_le_length (by simp; omega)]
        rw [List.drop_eq_nil_of_le (by simp; omega)]; rfl
      have h3' := h3.shift G.length
      have := Sc.tok (l.take (skipC false l) ++ G ++ l.drop (skipC false l)) pos (tokL (l.drop (skipC false l))) (ts.map (Tok.shift G.length)) none (by rw [e1, e2]; exact h0) (by rw [e1, e2]) h2
        (by rw [e1, e2, show pos + (skipC false l + G.length) + (tokL (l.drop (skipC false l))).n = pos + skipC false l + (tokL (l.drop (skipC false l))).n + G.length by omega]; exact h3')
      rw [e1] at this
      simpa [Tok.shift, Nat.add_assoc] using this
    | succ i =>
      obtain ⟨t2, us, rfl⟩ := h3.ne
      have hle := h3.lastEnd_le
      have ht' : (t2 :: us)[i]? = some t := by simpa using ht
      obtain ⟨k, hk1, hk2, hk3⟩ := ih rfl i t ht' (fun q => by
        have hq := hk q
        have e3 : lastEnd pos (⟨(tokL (l.drop (skipC false l))).kind, (tokL (l.drop (skipC false l))).text, pos + skipC false l⟩ :: t2 :: us) = lastEnd (pos + skipC false l + (tokL (l.drop (skipC false l))).n) (t2 :: us) := by
          show lastEnd (pos + skipC false l + (wr _).length) (t2 :: us) = _
          rw [hw]
        rw [e3] at hq
        rw [List.drop_drop, List.drop_drop]
        rw [show skipC false l + ((tokL (l.drop (skipC false l))).n + (lastEnd (pos + skipC false l + (tokL (l.drop (skipC false l))).n) (t2 :: us) - (pos + skipC false l + (tokL (l.drop (skipC false l))).n))) = lastEnd (pos + skipC false l + (tokL (l.drop (skipC false l))).n) (t2 :: us) - pos by omega]
        exact hq)
      obtain ⟨rr, hrr⟩ : ∃ rr, rr = tokL (l.drop (skipC false l)) := ⟨_, rfl⟩
      obtain ⟨rest, hrest⟩ : ∃ rest, rest = (l.drop (skipC false l)).drop rr.n := ⟨_, rfl⟩
      rw [← hrr] at hk1 hk2 hk3 hn h2 h3 ht ⊢
      rw [← hrest] at hk2 hk3
      simp only [List.length_drop] at hn
      have hrl : rest.length = l.length - skipC false l - rr.n := by rw [hrest]; simp; omega
      refine ⟨skipC false l + rr.n + k, by omega, by omega, ?_⟩
      have e0 : l.drop (skipC false l) = (l.drop (skipC false l)).take rr.n ++ rest := by rw [hrest]; exact drop_split _ _
      have eL : l = l.take (skipC false l) ++ ((l.drop (skipC false l)).take rr.n ++ rest) := by rw [← e0]; exact drop_split _ _
      obtain ⟨A, hA⟩ : ∃ A, A = l.take (skipC false l) := ⟨_, rfl⟩
      obtain ⟨T, hT⟩ : ∃ T, T = (l.drop (skipC false l)).take rr.n := ⟨_, rfl⟩
      have hAl : A.length = skipC false l := by rw [hA]; exact take_len false
      have hTl : T.length = rr.n := by rw [hT]; simp; omega
      have eC : l.take (skipC false l + rr.n + k) = A ++ (T ++ rest.take k) := by
        rw [show skipC false l + rr.n + k = A.length + (T.length + k) by omega]
        conv => lhs; rw [eL, ← hA, ← hT]
        rw [List.take_length_add_append, List.take_length_add_append]
      have eD : l.drop (skipC false l + rr.n + k) = rest.drop k := by
        rw [show skipC false l + rr.n + k = A.length + (T.length + k) by omega]
        conv => lhs; rw [eL, ← hA, ← hT]
        rw [List.drop_length_add_append, List.drop_length_add_append]
      have hTok : tokL (T ++ rest.take k) = rr := by
        have : T ++ rest.take k = (l.drop (skipC false l)).take (rr.n + k) := by
          conv => rhs; rw [e0, ← hT]
          rw [← hTl, List.take_length_add_append]
        rw [this, hrr]
        exact tok_take (by rw [← hrr]; exact h2) (by omega)
      have hTok2 : tokL (T ++ (rest.take k ++ G ++ rest.drop k)) = rr := by
        rw [show T ++ (rest.take k ++ G ++ rest.drop k) = (T ++ rest.take k) ++ (G ++ rest.drop k) by simp [List.append_assoc], tok_blank (by rw [hTok]; exact h2) (hG0 _), hTok]
      have hsk : skipC false (A ++ (T ++ (rest.take k ++ G ++ rest.drop k))) = skipC false l := by
        rw [hA]; refine skip_swap h0 ?_
        have := skip_tok (l := T ++ (rest.take k ++ G ++ rest.drop k)) (by rw [hTok2]; exact h2) []
        rwa [List.append_nil] at this
      have eE : l.take (skipC false l + rr.n + k) ++ G ++ l.drop (skipC false l + rr.n + k) = A ++ (T ++ (rest.take k ++ G ++ rest.drop k)) := by
        rw [eC, eD]; simp [List.append_assoc]
      rw [eE]
      have eF : (A ++ (T ++ (rest.take k ++ G ++ rest.drop k))).drop (skipC false l) = T ++ (rest.take k ++ G ++ rest.drop k) := by
        rw [← hAl, List.drop_left]
      have := Sc.tok (A ++ (T ++ (rest.take k ++ G ++ rest.drop k))) pos rr ((t2 :: us).take i ++ ((t2 :: us).drop i).map (Tok.shift G.length)) none
        (by rw [hsk, eF]; intro q; have := congrArg tokL q; rw [hTok2] at this; rw [this] at h2; simp [tokL] at h2) (by rw [hsk, eF]; exact hTok2) h2
        (by rw [hsk, eF, ← hTl, List.drop_left]; rw [hTl]; exact hk3)
      rw [hsk] at this
      simpa using this
end Go.Proofs.Ytaemahhcacolgaa.LX
