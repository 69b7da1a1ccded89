/- Plain facts for LexSpaces: the last gap, and the tokens behind white space. -/
import Derived.Test.YtaemahhcacolgaaW23
namespace Go.Proofs.Ytaemahhcacolgaa
open Go.RowKit LX

theorem last_gap {l : List UInt8} {pos : Nat} {ts : List Tok} (h : Sc l pos ts none) : ∃ b, gapF false (l.drop (lastEnd pos ts - pos)) = some b := by
  generalize he : (none : Option Nat) = e at h
  induction h with
  | fin l pos h0 =>
    obtain ⟨b, g1, _⟩ := skip_parts l
    have hk := skipC_le false l
    rw [List.drop_eq_nil_iff] at h0
    have e1 : l.take (skipC false l) = l := List.take_of_length_le h0
    rw [e1] at g1
    exact ⟨b, by rw [show lastEnd pos [(⟨4, [], pos + l.length⟩ : Tok)] - pos = 0 by simp [lastEnd]]; exact g1⟩
  | bad => cases he
  | tok l pos r ts e h0 h1 h2 h3 ih =>
    subst h1 he
    obtain ⟨t, us, rfl⟩ := h3.ne
    have hw := (tok_wr (p := pos + skipC false l) h2).2.1
    have hle := h3.lastEnd_le
    obtain ⟨b, hb⟩ := ih rfl
    refine ⟨b, ?_⟩
    show gapF false (l.drop (lastEnd (pos + skipC false l + (LX.wr _).length) (t :: us) - pos)) = _
    rw [hw]
    rw [List.drop_drop, List.drop_drop] at hb
    rw [← hb]
    congr 2
    omega
theorem lastEnd_eq : ∀ (ts : List Tok) (pos : Nat), 1 < ts.length → lastEnd pos ts = (ts.getD (ts.length - 2) ⟨0, [], 0⟩).pos + (LX.wr (ts.getD (ts.length - 2) ⟨0, [], 0⟩)).length
  | [], _, h => by simp at h
  | [_], _, h => by simp at h
  | [t, u], pos, _ => rfl
  | t :: u :: v :: ts, pos, _ => by
    have ih := lastEnd_eq (u :: v :: ts) (t.pos + (LX.wr t).length) (by simp)
    show lastEnd (t.pos + (LX.wr t).length) (u :: v :: ts) = _
    rw [ih]
    rfl
theorem text_wr (t : Tok) : t.text.length ≤ (LX.wr t).length := by
  unfold LX.wr
  split
  · simp; omega
  · exact Nat.le_refl _
theorem from_le {l : List UInt8} {ts : List Tok} (h : Sc l 0 ts none) : fromN ts ≤ lastEnd 0 ts := by
  unfold fromN
  split
  · rename_i q
    rw [lastEnd_eq ts 0 q]
    have := text_wr (ts.getD (ts.length - 2) ⟨0, [], 0⟩)
    omega
  · omega
/-- No comment is open behind the last token. -/
theorem no_comment {l : List UInt8} {ts : List Tok} (h : Sc l 0 ts none) (hc : opn false (l.drop (fromN ts)) = false) : gapF false (l.drop (lastEnd 0 ts - 0)) = some false := by
  obtain ⟨b, hb⟩ := last_gap h
  have hf := from_le h
  have e : l.drop (fromN ts) = (l.drop (fromN ts)).take (lastEnd 0 ts - fromN ts) ++ l.drop (lastEnd 0 ts - 0) := by
    have := (List.take_append_drop (lastEnd 0 ts - fromN ts) (l.drop (fromN ts))).symm
    rw [List.drop_drop, show fromN ts + (lastEnd 0 ts - fromN ts) = lastEnd 0 ts - 0 by omega] at this
    exact this
  rw [e, opn_app] at hc
  have h1 := opn_mono _ _ hc
  rw [opn_gap _ _ _ hb] at h1
  rw [hb, h1]
theorem pos_le {l : List UInt8} {pos : Nat} {ts : List Tok} {e : Option Nat} (h : Sc l pos ts e) : ∀ t ∈ ts, t.pos ≤ pos + l.length := by
  induction h with
  | fin => intro t ht; simp at ht; subst ht; exact Nat.le_refl _
  | bad => intro t ht; cases ht
  | tok l pos r ts e h0 h1 h2 h3 ih =>
    subst h1
    have hs := skipC_le false l
    have hn := tok_le h2
    simp only [List.length_drop] at hn ih
    intro t ht
    rcases List.mem_cons.1 ht with rfl | g
    · show pos + skipC false l ≤ _; omega
    · have := ih t g; omega
/-- The tokens with white space in front of one. -/
def insT (i d : Nat) (ts : List Tok) : List Tok := ts.take i ++ (ts.drop i).map (Tok.shift d)
theorem insT_len (i d : Nat) (ts : List Tok) : (insT i d ts).length = ts.length := by simp [insT]; omega
theorem insT_same (i d : Nat) (ts : List Tok) : (insT i d ts).map (fun t => (t.kind, t.text)) = ts.map (fun t => (t.kind, t.text)) := by
  unfold insT
  rw [List.map_append, List.map_map]
  conv => rhs; rw [← List.take_append_drop i ts, List.map_append]
  rfl
theorem insT_get (i d n : Nat) (ts : List Tok) (t : Tok) (h : ts[n]? = some t) : (insT i d ts)[n]? = some (if i ≤ n then Tok.shift d t else t) := by
  have hn := (List.getElem?_eq_some_iff.1 h).1
  unfold insT
  by_cases g : i ≤ n
  · rw [if_pos g, List.getElem?_append_right (by simp; omega), List.getElem?_map, List.getElem?_drop, show i + (n - (ts.take i).length) = n by simp; omega, h]; rfl
  · rw [if_neg g, List.getElem?_append_left (by simp; omega), List.getElem?_take_of_lt (by omega), h]
/-- The white space that the law lays. -/
def gapsL (c : List UInt8) : List (List UInt8) := [[32], [9, 13], [10], 32 :: 35 :: (c ++ [10])]
theorem gap_line (c : List UInt8) (h : ∀ x ∈ c, x ≠ 10) : gapF true (c ++ [10]) = some false := by
  induction c with
  | nil => rfl
  | cons x c ih =>
    have hx := h x (by simp)
    rw [List.cons_append]
    unfold gapF
    rw [if_neg hx]
    exact ih (fun y hy => h y (by simp [hy]))
theorem gaps_ok {c : List UInt8} (h : ∀ x ∈ c, x ≠ 10) {G : List UInt8} (hG : G ∈ gapsL c) : gapF false G = some false ∧ ∀ m : List UInt8, ∀ d, (G ++ m).head? = some d → d = 32 ∨ d = 9 ∨ d = 10 := by
  simp only [gapsL, List.mem_cons, List.not_mem_nil, or_false] at hG
  rcases hG with rfl | rfl | rfl | rfl
  · exact ⟨rfl, fun m d hd => .inl (by simpa using hd.symm)⟩
  · exact ⟨rfl, fun m d hd => .inr (.inl (by simpa using hd.symm))⟩
  · exact ⟨rfl, fun m d hd => .inr (.inr (by simpa using hd.symm))⟩
  · refine ⟨?_, fun m d hd => .inl (by simpa using hd.symm)⟩
    have e1 : gapF false (32 :: 35 :: (c ++ [10])) = gapF true (c ++ [10]) := rfl
    rw [e1]; exact gap_line c h
theorem gaps_len (c : List UInt8) {G : List UInt8} (hG : G ∈ gapsL c) : G.length ≤ c.length + 3 ∧ 1 ≤ G.length := by
  simp only [gapsL, List.mem_cons, List.not_mem_nil, or_false] at hG
  rcases hG with rfl | rfl | rfl | rfl <;> simp
/-- What the scanner finds when white space stands in front of token i. -/
theorem spaces {l : List UInt8} {ts : List Tok} (h : Sc l 0 ts none) {c : List UInt8} (hc : ∀ x ∈ c, x ≠ 10) {G : List UInt8} (hG : G ∈ gapsL c) {i : Nat} {t : Tok} (ht : ts[i]? = some t) (hk : t.kind = 4 → opn false (l.drop (fromN ts)) = false) :
    Sc (l.take t.pos ++ G ++ l.drop t.pos) 0 (insT i G.length ts) none := by
  obtain ⟨g1, g2⟩ := gaps_ok hc hG
  obtain ⟨k, e, _, hs⟩ := h.ins g2 g1 i t ht (fun q => no_comment h (hk q))
  rw [Nat.zero_add] at e
  rw [e]; exact hs
end Go.Proofs.Ytaemahhcacolgaa
