/- Plain laws of a crash: what waits lies end to end behind what is durable; what a crash leaves of a file; the rows of a torn file. -/
import Derived.Test.YtmnimcdbfolhaaaWP
set_option linter.unusedSimpArgs false
set_option linter.unusedVariables false
namespace Go.Proofs.Ytmnimcdbfolhaaa
namespace DK
def seg (d : Bts) (p : Pd) : Bts := (d.drop p.fr).take (p.un - p.fr)
def Chain : Nat → List Pd → Nat → Prop
  | a, [], b => a = b
  | a, p :: l, b => p.fr = a ∧ a < p.un ∧ Chain p.un l b
def ofF (f : Nat) (q : List Pd) : List Pd := q.filter fun p => decide (p.file = f)
def Cov (s : St) : Prop := ∀ f, f < 8 → Chain (s.dur f) (ofF f s.q) (s.data f).length
theorem ofF_cons (f : Nat) (p : Pd) (q : List Pd) : ofF f (p :: q) = if p.file = f then p :: ofF f q else ofF f q := by
  unfold ofF; rw [List.filter_cons]; by_cases h : p.file = f <;> simp [h]
theorem ofF_app (f : Nat) (q r : List Pd) : ofF f (q ++ r) = ofF f q ++ ofF f r := List.filter_append ..
theorem chain_le : ∀ {a b : Nat} {l : List Pd}, Chain a l b → a ≤ b ∧ ∀ p ∈ l, a ≤ p.fr ∧ p.fr < p.un ∧ p.un ≤ b
  | a, b, [], h => ⟨Nat.le_of_eq h, fun p hp => by cases hp⟩
  | a, b, p :: l, ⟨h1, h2, h3⟩ => by
    obtain ⟨h4, h5⟩ := chain_le h3
    refine ⟨by omega, fun q hq => ?_⟩
    rcases List.mem_cons.1 hq with rfl | hq
    · exact ⟨by omega, by omega, h4⟩
    · have := h5 q hq; omega
theorem chain_snoc : ∀ {a b : Nat} {l : List Pd} {p : Pd}, Chain a l b → p.fr = b → b < p.un → Chain a (l ++ [p]) p.un
  | a, b, [], p, h, h1, h2 => ⟨by rw [h1]; exact h.symm, by have : a = b := h; omega, rfl⟩
  | a, b, q :: l, p, ⟨h3, h4, h5⟩, h1, h2 => ⟨h3, h4, chain_snoc h5 h1 h2⟩
theorem chain_cut (f n : Nat) : ∀ {a b : Nat} {l : List Pd}, Chain a l b → (∀ p ∈ l, p.file = f) → Chain (min a n) ((l.filter fun p => !(decide (p.file = f) && decide (n ≤ p.fr))).map fun p => if p.file = f then { p with un := min p.un n } else p) (min b n)
  | a, b, [], h, _ => by show min a n = min b n; rw [show a = b from h]
  | a, b, p :: l, ⟨h1, h2, h3⟩, hf => by
    have hp := hf p (by simp)
    have ih := chain_cut f n h3 (fun q hq => hf q (by simp [hq]))
    by_cases hn : n ≤ p.fr
    · have e : ((p :: l).filter fun p => !(decide (p.file = f) && decide (n ≤ p.fr))) = l.filter fun p => !(decide (p.file = f) && decide (n ≤ p.fr)) := by
        rw [List.filter_cons]; simp [hp, hn]
      rw [e, show min a n = min p.un n by omega]; exact ih
    · have e : ((p :: l).filter fun p => !(decide (p.file = f) && decide (n ≤ p.fr))) = p :: l.filter fun p => !(decide (p.file = f) && decide (n ≤ p.fr)) := by
        rw [List.filter_cons]; simp [hp]; omega
      rw [e, List.map_cons, if_pos hp]
      refine ⟨by show p.fr = min a n; omega, by show min a n < min p.un n; omega, ih⟩
section
variable {s : St}
theorem Cov.zero : Cov St.zero := fun _ _ => rfl
theorem Cov.addS (h : Cov s) (f : Int) (x : Bts) : Cov (addS s f x) := by
  unfold DK.addS
  split
  · rename_i g
    intro k hk
    show Chain (s.dur k) (ofF k (s.q ++ [⟨f.toNat, (s.data f.toNat).length, (s.data f.toNat).length + x.length⟩])) (upd s.data f.toNat (s.data f.toNat ++ x) k).length
    have hx : 0 < x.length := List.length_pos_iff.2 g.2.2
    rw [ofF_app, ofF_cons]
    by_cases e : f.toNat = k
    · rw [if_pos e, e, upd_same, List.length_append]
      exact chain_snoc (h k hk) rfl (by show _ < _ + _; omega)
    · rw [if_neg e, upd_other _ _ (Ne.symm e)]
      show Chain _ (ofF k s.q ++ []) _
      rw [List.append_nil]; exact h k hk
  · exact h
theorem Cov.dueS (h : Cov s) : Cov (dueS s) := h
theorem Cov.crash (h : Cov s) (hk : Ok s) (keep : List Int) : Cov (crash s keep) := by
  unfold DK.crash
  split
  · exact h
  · intro f hf
    show crU keep s.q s.dur s.q.length f = (List.take _ _).length
    rw [List.length_take, crD_len hk keep _ f hf]
    have := crU_le hk keep s.q.length f hf
    omega
theorem Cov.intS (h : Cov s) (hk : Ok s) : Cov (intS s) := by
  unfold DK.intS
  split
  · exact Cov.crash (s := DK.dueS s) h hk.dueS _
  · exact h
theorem Cov.append (h : Cov s) (hk : Ok s) (f : Int) (x : Bts) : Cov (append s f x).2 := by
  unfold DK.append
  split
  · exact h
  split
  · exact Cov.crash (Cov.addS (s := DK.dueS s) h f x) (hk.dueS.addS f x) _
  · exact Cov.addS (s := DK.dueS s) h f x
theorem ofF_not (f k : Nat) (q : List Pd) : ofF k (q.filter fun p => !decide (p.file = f)) = if k = f then [] else ofF k q := by
  induction q with
  | nil => by_cases e : k = f <;> simp [ofF, e]
  | cons p q ih =>
    rw [List.filter_cons]
    by_cases hp : p.file = f
    · simp only [hp, decide_true, Bool.not_true, Bool.false_eq_true, if_false]
      rw [ih, ofF_cons]
      by_cases e : k = f
      · rw [if_pos e, if_pos e]
      · rw [if_neg e, if_neg e, if_neg (by omega)]
    · simp only [hp, decide_false, Bool.not_false, if_true]
      rw [ofF_cons, ih, ofF_cons]
      by_cases e : k = f
      · rw [if_pos e, if_pos e, if_neg (by omega)]
      · rw [if_neg e, if_neg e]
theorem Cov.flushS (h : Cov s) (f : Nat) : Cov (flushS s f) := by
  intro k hk
  show Chain (upd s.dur f (s.data f).length k) (ofF k (s.q.filter fun p => !decide (p.file = f))) (s.data k).length
  rw [ofF_not]
  by_cases e : k = f
  · rw [if_pos e, e, upd_same]; rfl
  · rw [if_neg e, upd_other _ _ e]; exact h k hk
theorem Cov.flush (h : Cov s) (hk : Ok s) (f : Int) : Cov (flush s f).2 := by
  unfold DK.flush
  split
  · exact h
  split
  · exact h.intS hk
  split
  · split
    · exact h
    · exact Cov.flushS (s := DK.dueS s) h _
  · exact h
theorem ofF_cut (f n k : Nat) (q : List Pd) : ofF k ((q.filter fun p => !(decide (p.file = f) && decide (n ≤ p.fr))).map fun p => if p.file = f then { p with un := min p.un n } else p) =
    if k = f then ((ofF f q).filter fun p => !(decide (p.file = f) && decide (n ≤ p.fr))).map fun p => if p.file = f then { p with un := min p.un n } else p else ofF k q := by
  induction q with
  | nil => by_cases e : k = f <;> simp [ofF, e]
  | cons p q ih =>
    rw [List.filter_cons]
    by_cases hp : p.file = f
    · by_cases hn : n ≤ p.fr
      · rw [if_neg (by simp [hp, hn]), ih, ofF_cons, ofF_cons, if_pos hp]
        by_cases e : k = f
        · rw [if_pos e, if_pos e, List.filter_cons, if_neg (by simp [hp, hn])]
        · rw [if_neg e, if_neg e, if_neg (by omega)]
      · have e0 : (!(decide (p.file = f) && decide (n ≤ p.fr))) = true := by simp [hn]
        have e1 : (if p.file = f then ({ p with un := min p.un n } : Pd) else p).file = f := by rw [if_pos hp]; exact hp
        rw [if_pos e0, List.map_cons, ofF_cons, ih, e1, ofF_cons f p q, if_pos hp, ofF_cons k p q, hp]
        by_cases e : k = f
        · rw [if_pos e, if_pos e, if_pos e.symm, if_pos rfl, List.filter_cons, if_pos e0, List.map_cons]; simp [hp]
        · rw [if_neg e, if_neg e, if_neg (Ne.symm e)]; first | done | rw [if_neg (Ne.symm e)]
    · rw [if_pos (by simp [hp]), List.map_cons, ofF_cons, ih, ofF_cons, ofF_cons, if_neg hp, if_neg hp]
      by_cases e : k = f
      · rw [if_pos e, if_pos e, if_neg (by omega)]
      · rw [if_neg e, if_neg e]
theorem ofF_mem {f : Nat} {q : List Pd} {p : Pd} (h : p ∈ ofF f q) : p ∈ q ∧ p.file = f := by
  obtain ⟨h1, h2⟩ := List.mem_filter.1 h; exact ⟨h1, of_decide_eq_true h2⟩
theorem Cov.cutS (h : Cov s) {f n : Nat} (hf : f < 8) (hn : n ≤ (s.data f).length) : Cov (cutS s f n) := by
  intro k hk
  show Chain (upd s.dur f (min (s.dur f) n) k) (ofF k ((s.q.filter fun p => !(decide (p.file = f) && decide (n ≤ p.fr))).map fun p => if p.file = f then { p with un := min p.un n } else p)) (upd s.data f ((s.data f).take n) k).length
  rw [ofF_cut]
  by_cases e : k = f
  · rw [if_pos e, e, upd_same, upd_same, List.length_take, Nat.min_comm n]
    exact chain_cut f n (h f hf) (fun p hp => (ofF_mem hp).2)
  · rw [if_neg e, upd_other _ _ e, upd_other _ _ e]; exact h k hk
theorem Cov.cut (h : Cov s) (hk : Ok s) (f n : Int) : Cov (cut s f n).2 := by
  unfold DK.cut
  split
  · exact h
  split
  · exact h.intS hk
  split
  · rename_i g
    exact Cov.cutS (s := DK.dueS s) h (num_lt g.1) (show n.toNat ≤ (s.data f.toNat).length by omega)
  · exact h
theorem ofF_nil {q : List Pd} {g : Nat} (h : q.any (fun p => decide (p.file = g)) = false) : ofF g q = [] := by
  unfold ofF; rw [List.filter_eq_nil_iff]
  intro p hp
  have := List.any_eq_false.1 h p hp
  simpa using this
theorem Cov.turnS (h : Cov s) {f g : Nat} (hf : f < 8) (hg : g < 8) (hne : f ≠ g) (hq : s.q.any (fun p => decide (p.file = g)) = false) : Cov (turnS s f g) := by
  intro k hk
  show Chain (upd (upd s.dur f (s.dur g)) g 0 k) (ofF k (s.q.filter fun p => !decide (p.file = f))) (upd (upd s.data f (s.data g)) g [] k).length
  have hG : s.dur g = (s.data g).length := by have := h g hg; rw [ofF_nil hq] at this; exact this
  rw [ofF_not]
  by_cases e : k = g
  · rw [if_neg (by omega), e, upd_same, upd_same, ofF_nil hq]; rfl
  · rw [upd_other _ _ e, upd_other _ _ e]
    by_cases e2 : k = f
    · rw [if_pos e2, e2, upd_same, upd_same]; exact hG
    · rw [if_neg e2, upd_other _ _ e2, upd_other _ _ e2]; exact h k hk
theorem Cov.turn (h : Cov s) (hk : Ok s) (f g : Int) : Cov (turn s f g).2 := by
  unfold DK.turn
  split
  · exact h
  split
  · exact h.intS hk
  split
  · rename_i q
    split
    · exact h
    · rename_i hq
      exact Cov.turnS (s := DK.dueS s) h (num_lt q.1) (num_lt q.2.1) (by have := num_iff.1 q.1; have := num_iff.1 q.2.1; omega) (Bool.eq_false_iff.2 hq)
  · exact h
end
/-! What a crash leaves -/
def aft (keep : List Int) (d : Bts) (f : Nat) : Nat → List Pd → Bts → Nat → Bts
  | _, [], s, _ => s
  | i, p :: q, s, g => if p.file = f then
      (if 0 < kept keep i p then aft keep d f (i + 1) q (s ++ List.replicate g 0 ++ (seg d p).take (kept keep i p)) (p.un - p.fr - kept keep i p) else aft keep d f (i + 1) q s (g + (p.un - p.fr)))
    else aft keep d f (i + 1) q s g
theorem zer_take {l : Bts} {x n m : Nat} (hm : m ≤ x) (hx : x ≤ l.length) : (zer l x n).take m = l.take m := by
  unfold zer
  rw [List.append_assoc, List.take_append_of_le_length (by rw [List.length_take]; omega), List.take_take, Nat.min_eq_left hm]
theorem zer_drop {l : Bts} {x n : Nat} (hx : x ≤ n) (hn : n ≤ l.length) : (zer l x n).drop n = l.drop n := by
  unfold zer
  have : (l.take x ++ List.replicate (n - x) 0).length = n := by rw [List.length_append, List.length_take, List.length_replicate]; omega
  conv => lhs; arg 1; rw [← this]
  exact List.drop_left
theorem zer_mid {l : Bts} {x n u g : Nat} (hu : u + g = x) (hx : x ≤ n) (hn : n ≤ l.length) (hz : (l.drop u).take g = List.replicate g 0) : ((zer l x n).drop u).take (g + (n - x)) = List.replicate (g + (n - x)) 0 := by
  have e1 : zer l x n = l.take u ++ (List.replicate (g + (n - x)) 0 ++ l.drop n) := by
    unfold zer
    have : l.take x = l.take u ++ List.replicate g 0 := by rw [← hu, ← hz, List.take_add]
    rw [this, List.append_assoc, List.append_assoc, ← List.append_assoc (List.replicate g 0), List.replicate_append_replicate]
  have e2 : (l.take u).length = u := by rw [List.length_take]; omega
  have e3 : (zer l x n).drop u = List.replicate (g + (n - x)) 0 ++ l.drop n := by
    rw [e1]
    conv => lhs; arg 1; rw [← e2]
    exact List.drop_left
  rw [e3]
  conv => lhs; arg 1; rw [← List.length_replicate (n := g + (n - x)) (a := (0 : UInt8))]
  exact List.take_left
structure AftJ (s : St) (keep : List Int) (f k : Nat) (s' : Bts) (g e : Nat) : Prop where
  pre : (crD keep s.q s.data k f).take (crU keep s.q s.dur k f) = s'
  sum : crU keep s.q s.dur k f + g = e
  mid : ((crD keep s.q s.data k f).drop (crU keep s.q s.dur k f)).take g = List.replicate g 0
  post : (crD keep s.q s.data k f).drop e = (s.data f).drop e
  chain : Chain e (ofF f (s.q.drop k)) (s.data f).length
  same : aft keep (s.data f) f 0 s.q ((s.data f).take (s.dur f)) 0 = aft keep (s.data f) f k (s.q.drop k) s' g
theorem aft_step {s : St} (hk : Ok s) (keep : List Int) {f k : Nat} (hf : f < 8) {s' : Bts} {g e : Nat} {p : Pd} (hp : s.q[k]? = some p) (J : AftJ s keep f k s' g e) : ∃ s2 g2 e2, AftJ s keep f (k + 1) s2 g2 e2 := by
  have hlt := (List.getElem?_eq_some_iff.1 hp).1
  have hd : s.q.drop k = p :: s.q.drop (k + 1) := by
    rw [List.drop_eq_getElem_cons hlt]; congr 1; exact (List.getElem?_eq_some_iff.1 hp).2
  obtain ⟨j1, j2, j3, j4, j5, j6⟩ := J
  rw [hd, ofF_cons] at j5
  rw [hd] at j6
  have hlen := crD_len hk keep k f hf
  have hpk := hk.q p (List.mem_of_getElem? hp)
  by_cases hpf : p.file = f
  · rw [if_pos hpf] at j5
    obtain ⟨c1, c2, c3⟩ := j5
    have hun := (chain_le c3).1
    have hkn := kept_le (keep := keep) (i := k) (p := p) (by omega)
    have eD : crD keep s.q s.data (k + 1) f = zer (crD keep s.q s.data k f) (p.fr + kept keep k p) p.un := by
      rw [crD_at hp, hpf, upd_same]
    simp only [aft, if_pos hpf] at j6
    obtain ⟨D, hD⟩ : ∃ D, crD keep s.q s.data k f = D := ⟨_, rfl⟩
    obtain ⟨U, hU⟩ : ∃ U, crU keep s.q s.dur k f = U := ⟨_, rfl⟩
    rw [hD] at j1 j3 j4 hlen eD
    rw [hU] at j1 j2 j3
    obtain ⟨n, hn⟩ : ∃ n, kept keep k p = n := ⟨_, rfl⟩
    rw [hn] at hkn eD j6
    by_cases h0 : 0 < n
    · rw [if_pos h0] at j6
      have eU : crU keep s.q s.dur (k + 1) f = p.fr + n := by rw [crU_at hp, hn, if_pos h0, hpf, upd_same]
      refine ⟨_, _, p.un, ?_, ?_, ?_, ?_, c3, j6⟩
      · rw [eD, eU, zer_take (Nat.le_refl _) (by omega)]
        rw [c1, ← j2, Nat.add_assoc, List.take_add, j1, List.take_add, j3, List.drop_drop, j2, j4, List.append_assoc]
        congr 2
        unfold seg
        rw [List.take_take, c1, Nat.min_eq_left (by omega)]
      · rw [eU]; omega
      · rw [eD, eU]
        have := zer_mid (l := D) (x := p.fr + n) (n := p.un) (u := p.fr + n) (g := 0) (by omega) (by omega) (by omega) rfl
        rw [Nat.zero_add] at this
        rw [show p.un - p.fr - n = p.un - (p.fr + n) by omega]; exact this
      · rw [eD, zer_drop hkn (by omega)]
        have : D.drop p.un = (D.drop e).drop (p.un - e) := by rw [List.drop_drop]; congr 1; omega
        rw [this, j4, List.drop_drop]; congr 1; omega
    · have hn0 : n = 0 := by omega
      subst hn0
      rw [if_neg h0] at j6
      rw [Nat.add_zero] at eD
      have eU : crU keep s.q s.dur (k + 1) f = U := by rw [crU_at hp, hn, if_neg h0, hU]
      refine ⟨_, _, p.un, ?_, ?_, ?_, ?_, c3, j6⟩
      · rw [eD, eU, zer_take (by omega) (by omega)]; exact j1
      · rw [eU]; omega
      · rw [eD, eU]; exact zer_mid (by omega) (by omega) (by omega) j3
      · rw [eD, zer_drop (by omega) (by omega)]
        have : D.drop p.un = (D.drop e).drop (p.un - e) := by rw [List.drop_drop]; congr 1; omega
        rw [this, j4, List.drop_drop]; congr 1; omega
  · rw [if_neg hpf] at j5
    simp only [aft, if_neg hpf] at j6
    have eD : crD keep s.q s.data (k + 1) f = crD keep s.q s.data k f := by rw [crD_at hp, upd_other _ _ (Ne.symm hpf)]
    have eU : crU keep s.q s.dur (k + 1) f = crU keep s.q s.dur k f := by
      rw [crU_at hp]; split
      · rw [upd_other _ _ (Ne.symm hpf)]
      · rfl
    exact ⟨s', g, e, by rw [eD, eU]; exact j1, by rw [eU]; exact j2, by rw [eD, eU]; exact j3, by rw [eD]; exact j4, j5, j6⟩
theorem crash_aft {s : St} (hk : Ok s) (hc : Cov s) (hd : s.down = false) (keep : List Int) {f : Nat} (hf : f < 8) : (crash s keep).data f = aft keep (s.data f) f 0 s.q ((s.data f).take (s.dur f)) 0 := by
  have key : ∀ k, k ≤ s.q.length → ∃ s' g e, AftJ s keep f k s' g e := by
    intro k
    induction k with
    | zero => exact fun _ => ⟨_, 0, s.dur f, rfl, rfl, rfl, rfl, hc f hf, rfl⟩
    | succ k ih =>
      intro h
      obtain ⟨s', g, e, J⟩ := ih (by omega)
      exact aft_step hk keep hf (List.getElem?_eq_getElem (by omega)) J
  obtain ⟨s', g, e, J⟩ := key _ (Nat.le_refl _)
  have h := J.same
  rw [List.drop_length] at h
  rw [h]
  unfold crash; rw [hd]
  exact J.pre
end DK
end Go.Proofs.Ytmnimcdbfolhaaa
