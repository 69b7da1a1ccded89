/- Plain laws of whole sources, on: token by token. -/
import Derived.Test.YtaemahhcacolgaaLX4
namespace Go.Proofs.Ytaemahhcacolgaa.LX

/-- What the first token tells, and what follows. -/
structure StepL (l : List UInt8) (e : Nat) (t : Tok) (rest : List Tok) : Prop where
  lo : e ≤ t.pos
  hi : t.pos + (wr t).length ≤ l.length
  txt : (l.drop t.pos).take (wr t).length = wr t
  kind : 0 ≤ t.kind ∧ t.kind ≤ 4
  fin : t.kind = 4 ↔ rest = []
  ne : t.kind ≠ 4 → wr t ≠ []
  gap : Sc ((l.drop e).take (t.pos - e)) 0 [⟨4, [], t.pos - e⟩] none
  last : rest = [] → t.pos = l.length ∧ t.text = []
  next : rest ≠ [] → Sc (l.drop (t.pos + (wr t).length)) (t.pos + (wr t).length) rest none
theorem Sc.ne_nil {l : List UInt8} {pos : Nat} {ts : List Tok} (h : Sc l pos ts none) : ts ≠ [] := by
  cases h <;> simp
theorem gap_scan (m : List UInt8) : Sc (m.take (skipC false m)) 0 [⟨4, [], skipC false m⟩] none := by
  obtain ⟨b, g1, _⟩ := skip_parts m
  have := gap_app false b _ [] g1
  rw [List.append_nil] at this
  have hl : (m.take (skipC false m)).length = skipC false m := by have := skipC_le false m; simp; omega
  have e1 : skipC false (m.take (skipC false m)) = (m.take (skipC false m)).length := by rw [this]; cases b <;> simp [skipC]
  have := Sc.fin (m.take (skipC false m)) 0 (by rw [e1, List.drop_length])
  rw [hl] at this
  simpa using this
theorem Sc.step {l : List UInt8} {e : Nat} {t : Tok} {rest : List Tok} (he : e ≤ l.length) (h : Sc (l.drop e) e (t :: rest) none) : StepL l e t rest := by
  generalize hL : l.drop e = L at h
  have hLl : L.length = l.length - e := by rw [← hL]; simp
  have hs := skipC_le false L
  cases h with
  | fin _ _ h0 =>
    have hk : skipC false L = L.length := by rw [List.drop_eq_nil_iff] at h0; omega
    have hw : wr ⟨4, [], e + L.length⟩ = [] := rfl
    refine ⟨by simp, by rw [hw]; simp; omega, by rw [hw]; simp, by show (0 : Int) ≤ 4 ∧ (4 : Int) ≤ 4; decide, by simp, fun h => absurd rfl h, ?_, fun _ => ⟨by simp; omega, rfl⟩, fun h => absurd rfl h⟩
    have := gap_scan L
    rw [hk] at this
    rw [hL]
    simpa using this
  | tok _ _ r us f h0 h1 h2 h3 =>
    subst h1
    obtain ⟨w1, w2, w3, w4⟩ := tok_wr (p := e + skipC false L) h2
    have hn := tok_le h2
    have hp := tok_pos h2
    simp only [List.length_drop] at hn
    have hd : (L.drop (skipC false L)) = l.drop (e + skipC false L) := by rw [← hL, List.drop_drop]
    refine ⟨by simp, by rw [w2]; simp; omega, by rw [w2]; show (l.drop (e + skipC false L)).take _ = _; rw [← hd, w1], ⟨w3, by simp; omega⟩, ?_, fun _ h => by rw [h] at w2; simp at w2; omega, ?_, fun h => absurd h h3.ne_nil, fun _ => ?_⟩
    · constructor
      · intro h; simp at h; omega
      · intro h; exact absurd h h3.ne_nil
    · have := gap_scan L
      rw [hL]
      simpa using this
    · rw [w2]
      show Sc (l.drop (e + skipC false L + _)) (e + skipC false L + _) _ _
      rw [← List.drop_drop, ← hd]; exact h3
theorem Sc.last {l : List UInt8} {pos : Nat} {ts : List Tok} (h : Sc l pos ts none) : ts[ts.length - 1]? = some ⟨4, [], pos + l.length⟩ := by
  generalize he : (none : Option Nat) = e at h
  induction h with
  | fin => rfl
  | bad => cases he
  | tok l pos r us e h0 h1 h2 h3 ih =>
    subst h1 he
    have hn := tok_le h2
    have hs := skipC_le false l
    simp only [List.length_drop] at hn ih
    have hne := h3.ne_nil
    obtain ⟨u, us, rfl⟩ := List.exists_cons_of_ne_nil hne
    have := ih trivial
    simp only [List.length_cons, Nat.add_sub_cancel] at this ⊢
    rw [List.getElem?_cons_succ, this]
    congr 2
    omega
theorem back_len {l : List UInt8} {ts : List Tok} {pos : Nat} (h : Sc l pos ts none) : (ts.map (fun t => (wr t).length)).sum ≤ l.length := by
  generalize he : (none : Option Nat) = e at h
  induction h with
  | fin => simp [wr]
  | bad => cases he
  | tok l pos r us e h0 h1 h2 h3 ih =>
    subst h1 he
    have hn := tok_le h2
    have hs := skipC_le false l
    obtain ⟨w1, w2, w3, w4⟩ := tok_wr (p := pos + skipC false l) h2
    have := ih rfl
    simp only [List.length_drop] at hn this
    simp only [List.map_cons, List.sum_cons]
    rw [w2]; omega
theorem text_len {l : List UInt8} {ts : List Tok} {pos : Nat} (h : Sc l pos ts none) : ∀ t ∈ ts, t.text.length ≤ l.length := by
  intro t ht
  have h1 := back_len h
  have h2 : (wr t).length ≤ (ts.map (fun t => (wr t).length)).sum := by
    clear h1 h
    induction ts with
    | nil => cases ht
    | cons u us ih =>
      simp only [List.map_cons, List.sum_cons]
      rcases List.mem_cons.1 ht with rfl | g
      · omega
      · have := ih g; omega
  have h3 : t.text.length ≤ (wr t).length := by
    unfold wr
    split
    · simp; omega
    · exact Nat.le_refl _
  omega
/-- The written form is not much longer than the source. -/
theorem wlen {ts : List Tok} {n : Nat} (h : (ts.map (fun t => (wr t).length)).sum ≤ n) : (writeL ts).length ≤ n + ts.length := by
  unfold writeL
  have key : ∀ (ts : List Tok), Lib.lens (ts.filterMap wrO) ≤ (ts.map (fun t => (wr t).length)).sum ∧ (ts.filterMap wrO).length ≤ ts.length := by
    intro ts
    induction ts with
    | nil => exact ⟨Nat.le_refl _, Nat.le_refl _⟩
    | cons t ts ih =>
      cases hq : wrO t with
      | none =>
        rw [List.filterMap_cons_none hq]
        simp only [List.map_cons, List.sum_cons, List.length_cons]
        omega
      | some u =>
        have hu : u.length ≤ (wr t).length := by
          unfold wrO at hq
          unfold wr
          split at hq
          · obtain rfl := Option.some.inj hq
            split
            · omega
            · exact Nat.le_refl _
          · split at hq
            · rename_i g; obtain rfl := Option.some.inj hq; rw [if_pos g]; exact Nat.le_refl _
            · cases hq
        rw [List.filterMap_cons_some hq]
        simp only [Lib.lens, List.map_cons, List.sum_cons, List.length_cons] at ih ⊢
        omega
  obtain ⟨k1, k2⟩ := key ts
  generalize ts.filterMap wrO = r at k1 k2 ⊢
  cases r with
  | nil => simp [Lib.join_nil]
  | cons x y =>
    rw [Lib.join_cons, List.length_append, Lib.joinTail_length]
    simp only [Lib.lens, List.map_cons, List.sum_cons, List.length_cons, List.length_nil] at k1 k2 ⊢
    omega
end Go.Proofs.Ytaemahhcacolgaa.LX
