/- Plain laws: what waits on a disk, what a crash leaves of it, how a file of records goes on from call to call, a disk that is up and in order. -/
import Derived.Test.YtmnimcdbfolhaaaX2
set_option linter.unusedSimpArgs false
set_option linter.unusedVariables false
namespace Go.Proofs.Ytmnimcdbfolhaaa
namespace DK
def seg (d : Bts) (p : Pd) : Bts := (d.drop p.fr).take (p.un - p.fr)
def Chain : Nat → List Pd → Nat → Prop
  | a, [], b => a = b
  | a, p :: l, b => p.fr = a ∧ a < p.un ∧ Chain p.un l b
def ofF (f : Nat) (q : List Pd) : List Pd := q.filter fun p => decide (p.file = f)
def Cov (s : St) : Prop := ∀ f, f < 8 → Chain (s.dur f) (ofF f s.q) (s.data f).length
theorem ofF_cons (f : Nat) (p : Pd) (q : List Pd) : ofF f (p :: q) = if p.file = f then p :: ofF f q else ofF f q := by
  unfold ofF; rw [List.filter_cons]; by_cases h : p.file = f <;> simp [h]
theorem ofF_app (f : Nat) (q r : List Pd) : ofF f (q ++ r) = ofF f q ++ ofF f r := List.filter_append ..
theorem chain_le : ∀ {a b : Nat} {l : List Pd}, Chain a l b → a ≤ b ∧ ∀ p ∈ l, a ≤ p.fr ∧ p.fr < p.un ∧ p.un ≤ b
  | a, b, [], h => ⟨Nat.le_of_eq h, fun p hp => by cases hp⟩
  | a, b, p :: l, ⟨h1, h2, h3⟩ => by
    obtain ⟨h4, h5⟩ := chain_le h3
    refine ⟨by omega, fun q hq => ?_⟩
    rcases List.mem_cons.1 hq with rfl | hq
    · exact ⟨by omega, by omega, h4⟩
    · have := h5 q hq; omega
theorem chain_snoc : ∀ {a b : Nat} {l : List Pd} {p : Pd}, Chain a l b → p.fr = b → b < p.un → Chain a (l ++ [p]) p.un
  | a, b, [], p, h, h1, h2 => ⟨by rw [h1]; exact h.symm, by have : a = b := h; omega, rfl⟩
  | a, b, q :: l, p, ⟨h3, h4, h5⟩, h1, h2 => ⟨h3, h4, chain_snoc h5 h1 h2⟩
theorem chain_cut (f n : Nat) : ∀ {a b : Nat} {l : List Pd}, Chain a l b → (∀ p ∈ l, p.file = f) → Chain (min a n) ((l.filter fun p => !(decide (p.file = f) && decide (n ≤ p.fr))).map fun p => if p.file = f then { p with un := min p.un n } else p) (min b n)
  | a, b, [], h, _ => by show min a n = min b n; rw [show a = b from h]
  | a, b, p :: l, ⟨h1, h2, h3⟩, hf => by
    have hp := hf p (by simp)
    have ih := chain_cut f n h3 (fun q hq => hf q (by simp [hq]))
    by_cases hn : n ≤ p.fr
    · have e : ((p :: l).filter fun p => !(decide (p.file = f) && decide (n ≤ p.fr))) = l.filter fun p => !(decide (p.file = f) && decide (n ≤ p.fr)) := by
        rw [List.filter_cons]; simp [hp, hn]
      rw [e, show min a n = min p.un n by omega]; exact ih
    · have e : ((p :: l).filter fun p => !(decide (p.file = f) && decide (n ≤ p.fr))) = p :: l.filter fun p => !(decide (p.file = f) && decide (n ≤ p.fr)) := by
        rw [List.filter_cons]; simp [hp]; omega
      rw [e, List.map_cons, if_pos hp]
      refine ⟨by show p.fr = min a n; omega, by show min a n < min p.un n; omega, ih⟩
section
variable {s : St}
theorem Cov.zero : Cov St.zero := fun _ _ => rfl
theorem Cov.addS (h : Cov s) (f : Int) (x : Bts) : Cov (addS s f x) := by
  unfold DK.addS
  split
  · rename_i g
    intro k hk
    show Chain (s.dur k) (ofF k (s.q ++ [⟨f.toNat, (s.data f.toNat).length, (s.data f.toNat).length + x.length⟩])) (upd s.data f.toNat (s.data f.toNat ++ x) k).length
    have hx : 0 < x.length := List.length_pos_iff.2 g.2.2
    rw [ofF_app, ofF_cons]
    by_cases e : f.toNat = k
    · rw [if_pos e, e, upd_same, List.length_append]
      exact chain_snoc (h k hk) rfl (by show _ < _ + _; omega)
    · rw [if_neg e, upd_other _ _ (Ne.symm e)]
      show Chain _ (ofF k s.q ++ []) _
      rw [List.append_nil]; exact h k hk
  · exact h
theorem Cov.dueS (h : Cov s) : Cov (dueS s) := h
theorem Cov.crash (h : Cov s) (hk : Ok s) (keep : List Int) : Cov (crash s keep) := by
  unfold DK.crash
  split
  · exact h
  · intro f hf
    show crU keep s.q s.dur s.q.length f = (List.take _ _).length
    rw [List.length_take, crD_len hk keep _ f hf]
    have := crU_le hk keep s.q.length f hf
    omega
theorem Cov.intS (h : Cov s) (hk : Ok s) : Cov (intS s) := by
  unfold DK.intS
  split
  · exact Cov.crash (s := DK.dueS s) h hk.dueS _
  · exact h
theorem Cov.append (h : Cov s) (hk : Ok s) (f : Int) (x : Bts) : Cov (append s f x).2 := by
  unfold DK.append
  split
  · exact h
  split
  · exact Cov.crash (Cov.addS (s := DK.dueS s) h f x) (hk.dueS.addS f x) _
  · exact Cov.addS (s := DK.dueS s) h f x
theorem ofF_not (f k : Nat) (q : List Pd) : ofF k (q.filter fun p => !decide (p.file = f)) = if k = f then [] else ofF k q := by
  induction q with
  | nil => by_cases e : k = f <;> simp [ofF, e]
  | cons p q ih =>
    rw [List.filter_cons]
    by_cases hp : p.file = f
    · simp only [hp, decide_true, Bool.not_true, Bool.false_eq_true, if_false]
      rw [ih, ofF_cons]
      by_cases e : k = f
      · rw [if_pos e, if_pos e]
      · rw [if_neg e, if_neg e, if_neg (by omega)]
    · simp only [hp, decide_false, Bool.not_false, if_true]
      rw [ofF_cons, ih, ofF_cons]
      by_cases e : k = f
      · rw [if_pos e, if_pos e, if_neg (by omega)]
      · rw [if_neg e, if_neg e]
theorem Cov.flushS (h : Cov s) (f : Nat) : Cov (flushS s f) := by
  intro k hk
  show Chain (upd s.dur f (s.data f).length k) (ofF k (s.q.filter fun p => !decide (p.file = f))) (s.data k).length
  rw [ofF_not]
  by_cases e : k = f
  · rw [if_pos e, e, upd_same]; rfl
  · rw [if_neg e, upd_other _ _ e]; exact h k hk
theorem Cov.flush (h : Cov s) (hk : Ok s) (f : Int) : Cov (flush s f).2 := by
  unfold DK.flush
  split
  · exact h
  split
  · exact h.intS hk
  split
  · split
    · exact h
    · exact Cov.flushS (s := DK.dueS s) h _
  · exact h
theorem ofF_cut (f n k : Nat) (q : List Pd) : ofF k ((q.filter fun p => !(decide (p.file = f) && decide (n ≤ p.fr))).map fun p => if p.file = f then { p with un := min p.un n } else p) =
    if k = f then ((ofF f q).filter fun p => !(decide (p.file = f) && decide (n ≤ p.fr))).map fun p => if p.file = f then { p with un := min p.un n } else p else ofF k q := by
  induction q with
  | nil => by_cases e : k = f <;> simp [ofF, e]
  | cons p q ih =>
    rw [List.filter_cons]
    by_cases hp : p.file = f
    · by_cases hn : n ≤ p.fr
      · rw [if_neg (by simp [hp, hn]), ih, ofF_cons, ofF_cons, if_pos hp]
        by_cases e : k = f
        · rw [if_pos e, if_pos e, List.filter_cons, if_neg (by simp [hp, hn])]
        · rw [if_neg e, if_neg e, if_neg (by omega)]
      · have e0 : (!(decide (p.file = f) && decide (n ≤ p.fr))) = true := by simp [hn]
        have e1 : (if p.file = f then ({ p with un := min p.un n } : Pd) else p).file = f := by rw [if_pos hp]; exact hp
        rw [if_pos e0, List.map_cons, ofF_cons, ih, e1, ofF_cons f p q, if_pos hp, ofF_cons k p q, hp]
        by_cases e : k = f
        · rw [if_pos e, if_pos e, if_pos e.symm, if_pos rfl, List.filter_cons, if_pos e0, List.map_cons]; simp [hp]
        · rw [if_neg e, if_neg e, if_neg (Ne.symm e)]; first | done | rw [if_neg (Ne.symm e)]
    · rw [if_pos (by simp [hp]), List.map_cons, ofF_cons, ih, ofF_cons, ofF_cons, if_neg hp, if_neg hp]
      by_cases e : k = f
      · rw [if_pos e, if_pos e, if_neg (by omega)]
      · rw [if_neg e, if_neg e]
theorem ofF_mem {f : Nat} {q : List Pd} {p : Pd} (h : p ∈ ofF f q) : p ∈ q ∧ p.file = f := by
  obtain ⟨h1, h2⟩ := List.mem_filter.1 h; exact ⟨h1, of_decide_eq_true h2⟩
theorem Cov.cutS (h : Cov s) {f n : Nat} (hf : f < 8) (hn : n ≤ (s.data f).length) : Cov (cutS s f n) := by
  intro k hk
  show Chain (upd s.dur f (min (s.dur f) n) k) (ofF k ((s.q.filter fun p => !(decide (p.file = f) && decide (n ≤ p.fr))).map fun p => if p.file = f then { p with un := min p.un n } else p)) (upd s.data f ((s.data f).take n) k).length
  rw [ofF_cut]
  by_cases e : k = f
  · rw [if_pos e, e, upd_same, upd_same, List.length_take, Nat.min_comm n]
    exact chain_cut f n (h f hf) (fun p hp => (ofF_mem hp).2)
  · rw [if_neg e, upd_other _ _ e, upd_other _ _ e]; exact h k hk
theorem Cov.cut (h : Cov s) (hk : Ok s) (f n : Int) : Cov (cut s f n).2 := by
  unfold DK.cut
  split
  · exact h
  split
  · exact h.intS hk
  split
  · rename_i g
    exact Cov.cutS (s := DK.dueS s) h (num_lt g.1) (show n.toNat ≤ (s.data f.toNat).length by omega)
  · exact h
theorem ofF_nil {q : List Pd} {g : Nat} (h : q.any (fun p => decide (p.file = g)) = false) : ofF g q = [] := by
  unfold ofF; rw [List.filter_eq_nil_iff]
  intro p hp
  have := List.any_eq_false.1 h p hp
  simpa using this
theorem Cov.turnS (h : Cov s) {f g : Nat} (hf : f < 8) (hg : g < 8) (hne : f ≠ g) (hq : s.q.any (fun p => decide (p.file = g)) = false) : Cov (turnS s f g) := by
  intro k hk
  show Chain (upd (upd s.dur f (s.dur g)) g 0 k) (ofF k (s.q.filter fun p => !decide (p.file = f))) (upd (upd s.data f (s.data g)) g [] k).length
  have hG : s.dur g = (s.data g).length := by have := h g hg; rw [ofF_nil hq] at this; exact this
  rw [ofF_not]
  by_cases e : k = g
  · rw [if_neg (by omega), e, upd_same, upd_same, ofF_nil hq]; rfl
  · rw [upd_other _ _ e, upd_other _ _ e]
    by_cases e2 : k = f
    · rw [if_pos e2, e2, upd_same, upd_same]; exact hG
    · rw [if_neg e2, upd_other _ _ e2, upd_other _ _ e2]; exact h k hk
theorem Cov.turn (h : Cov s) (hk : Ok s) (f g : Int) : Cov (turn s f g).2 := by
  unfold DK.turn
  split
  · exact h
  split
  · exact h.intS hk
  split
  · rename_i q
    split
    · exact h
    · rename_i hq
      exact Cov.turnS (s := DK.dueS s) h (num_lt q.1) (num_lt q.2.1) (by have := num_iff.1 q.1; have := num_iff.1 q.2.1; omega) (Bool.eq_false_iff.2 hq)
  · exact h
end
/-! What a crash leaves -/
def aft (keep : List Int) (d : Bts) (f : Nat) : Nat → List Pd → Bts → Nat → Bts
  | _, [], s, _ => s
  | i, p :: q, s, g => if p.file = f then
      (if 0 < kept keep i p then aft keep d f (i + 1) q (s ++ List.replicate g 0 ++ (seg d p).take (kept keep i p)) (p.un - p.fr - kept keep i p) else aft keep d f (i + 1) q s (g + (p.un - p.fr)))
    else aft keep d f (i + 1) q s g
theorem zer_take {l : Bts} {x n m : Nat} (hm : m ≤ x) (hx : x ≤ l.length) : (zer l x n).take m = l.take m := by
  unfold zer
  rw [List.append_assoc, List.take_append_of_le_length (by rw [List.length_take]; omega), List.take_take, Nat.min_eq_left hm]
theorem zer_drop {l : Bts} {x n : Nat} (hx : x ≤ n) (hn : n ≤ l.length) : (zer l x n).drop n = l.drop n := by
  unfold zer
  have : (l.take x ++ List.replicate (n - x) 0).length = n := by rw [List.length_append, List.length_take, List.length_replicate]; omega
  conv => lhs; arg 1; rw [← this]
  exact List.drop_left
theorem zer_mid {l : Bts} {x n u g : Nat} (hu : u + g = x) (hx : x ≤ n) (hn : n ≤ l.length) (hz : (l.drop u).take g = List.replicate g 0) : ((zer l x n).drop u).take (g + (n - x)) = List.replicate (g + (n - x)) 0 := by
  have e1 : zer l x n = l.take u ++ (List.replicate (g + (n - x)) 0 ++ l.drop n) := by
    unfold zer
    have : l.take x = l.take u ++ List.replicate g 0 := by rw [← hu, ← hz, List.take_add]
    rw [this, List.append_assoc, List.append_assoc, ← List.append_assoc (List.replicate g 0), List.replicate_append_replicate]
  have e2 : (l.take u).length = u := by rw [List.length_take]; omega
  have e3 : (zer l x n).drop u = List.replicate (g + (n - x)) 0 ++ l.drop n := by
    rw [e1]
    conv => lhs; arg 1; rw [← e2]
    exact List.drop_left
  rw [e3]
  conv => lhs; arg 1; rw [← List.length_replicate (n := g + (n - x)) (a := (0 : UInt8))]
  exact List.take_left
structure AftJ (s : St) (keep : List Int) (f k : Nat) (s' : Bts) (g e : Nat) : Prop where
  pre : (crD keep s.q s.data k f).take (crU keep s.q s.dur k f) = s'
  sum : crU keep s.q s.dur k f + g = e
  mid : ((crD keep s.q s.data k f).drop (crU keep s.q s.dur k f)).take g = List.replicate g 0
  post : (crD keep s.q s.data k f).drop e = (s.data f).drop e
  chain : Chain e (ofF f (s.q.drop k)) (s.data f).length
  same : aft keep (s.data f) f 0 s.q ((s.data f).take (s.dur f)) 0 = aft keep (s.data f) f k (s.q.drop k) s' g
theorem aft_step {s : St} (hk : Ok s) (keep : List Int) {f k : Nat} (hf : f < 8) {s' : Bts} {g e : Nat} {p : Pd} (hp : s.q[k]? = some p) (J : AftJ s keep f k s' g e) : ∃ s2 g2 e2, AftJ s keep f (k + 1) s2 g2 e2 := by
  have hlt := (List.getElem?_eq_some_iff.1 hp).1
  have hd : s.q.drop k = p :: s.q.drop (k + 1) := by
    rw [List.drop_eq_getElem_cons hlt]; congr 1; exact (List.getElem?_eq_some_iff.1 hp).2
  obtain ⟨j1, j2, j3, j4, j5, j6⟩ := J
  rw [hd, ofF_cons] at j5
  rw [hd] at j6
  have hlen := crD_len hk keep k f hf
  have hpk := hk.q p (List.mem_of_getElem? hp)
  by_cases hpf : p.file = f
  · rw [if_pos hpf] at j5
    obtain ⟨c1, c2, c3⟩ := j5
    have hun := (chain_le c3).1
    have hkn := kept_le (keep := keep) (i := k) (p := p) (by omega)
    have eD : crD keep s.q s.data (k + 1) f = zer (crD keep s.q s.data k f) (p.fr + kept keep k p) p.un := by
      rw [crD_at hp, hpf, upd_same]
    simp only [aft, if_pos hpf] at j6
    obtain ⟨D, hD⟩ : ∃ D, crD keep s.q s.data k f = D := ⟨_, rfl⟩
    obtain ⟨U, hU⟩ : ∃ U, crU keep s.q s.dur k f = U := ⟨_, rfl⟩
    rw [hD] at j1 j3 j4 hlen eD
    rw [hU] at j1 j2 j3
    obtain ⟨n, hn⟩ : ∃ n, kept keep k p = n := ⟨_, rfl⟩
    rw [hn] at hkn eD j6
    by_cases h0 : 0 < n
    · rw [if_pos h0] at j6
      have eU : crU keep s.q s.dur (k + 1) f = p.fr + n := by rw [crU_at hp, hn, if_pos h0, hpf, upd_same]
      refine ⟨_, _, p.un, ?_, ?_, ?_, ?_, c3, j6⟩
      · rw [eD, eU, zer_take (Nat.le_refl _) (by omega)]
        rw [c1, ← j2, Nat.add_assoc, List.take_add, j1, List.take_add, j3, List.drop_drop, j2, j4, List.append_assoc]
        congr 2
        unfold seg
        rw [List.take_take, c1, Nat.min_eq_left (by omega)]
      · rw [eU]; omega
      · rw [eD, eU]
        have := zer_mid (l := D) (x := p.fr + n) (n := p.un) (u := p.fr + n) (g := 0) (by omega) (by omega) (by omega) rfl
        rw [Nat.zero_add] at this
        rw [show p.un - p.fr - n = p.un - (p.fr + n) by omega]; exact this
      · rw [eD, zer_drop hkn (by omega)]
        have : D.drop p.un = (D.drop e).drop (p.un - e) := by rw [List.drop_drop]; congr 1; omega
        rw [this, j4, List.drop_drop]; congr 1; omega
    · have hn0 : n = 0 := by omega
      subst hn0
      rw [if_neg h0] at j6
      rw [Nat.add_zero] at eD
      have eU : crU keep s.q s.dur (k + 1) f = U := by rw [crU_at hp, hn, if_neg h0, hU]
      refine ⟨_, _, p.un, ?_, ?_, ?_, ?_, c3, j6⟩
      · rw [eD, eU, zer_take (by omega) (by omega)]; exact j1
      · rw [eU]; omega
      · rw [eD, eU]; exact zer_mid (by omega) (by omega) (by omega) j3
      · rw [eD, zer_drop (by omega) (by omega)]
        have : D.drop p.un = (D.drop e).drop (p.un - e) := by rw [List.drop_drop]; congr 1; omega
        rw [this, j4, List.drop_drop]; congr 1; omega
  · rw [if_neg hpf] at j5
    simp only [aft, if_neg hpf] at j6
    have eD : crD keep s.q s.data (k + 1) f = crD keep s.q s.data k f := by rw [crD_at hp, upd_other _ _ (Ne.symm hpf)]
    have eU : crU keep s.q s.dur (k + 1) f = crU keep s.q s.dur k f := by
      rw [crU_at hp]; split
      · rw [upd_other _ _ (Ne.symm hpf)]
      · rfl
    exact ⟨s', g, e, by rw [eD, eU]; exact j1, by rw [eU]; exact j2, by rw [eD, eU]; exact j3, by rw [eD]; exact j4, j5, j6⟩
theorem crash_aft {s : St} (hk : Ok s) (hc : Cov s) (hd : s.down = false) (keep : List Int) {f : Nat} (hf : f < 8) : (crash s keep).data f = aft keep (s.data f) f 0 s.q ((s.data f).take (s.dur f)) 0 := by
  have key : ∀ k, k ≤ s.q.length → ∃ s' g e, AftJ s keep f k s' g e := by
    intro k
    induction k with
    | zero => exact fun _ => ⟨_, 0, s.dur f, rfl, rfl, rfl, rfl, hc f hf, rfl⟩
    | succ k ih =>
      intro h
      obtain ⟨s', g, e, J⟩ := ih (by omega)
      exact aft_step hk keep hf (List.getElem?_eq_getElem (by omega)) J
  obtain ⟨s', g, e, J⟩ := key _ (Nat.le_refl _)
  have h := J.same
  rw [List.drop_length] at h
  rw [h]
  unfold crash; rw [hd]
  exact J.pre
end DK
end Go.Proofs.Ytmnimcdbfolhaaa
namespace Go.Proofs.Ytmnimcdbfolhaaa
namespace DK
theorem aft_tail (keep : List Int) (d : Bts) (f : Nat) : ∀ (q : List Pd) (i : Nat) (s : Bts) (g : Nat), aft keep d f i q s g = s ∨ ∃ u, aft keep d f i q s g = s ++ (List.replicate g 0 ++ u)
  | [], i, s, g => .inl rfl
  | p :: q, i, s, g => by
    unfold aft
    by_cases hp : p.file = f
    · rw [if_pos hp]
      by_cases h0 : 0 < kept keep i p
      · rw [if_pos h0]
        rcases aft_tail keep d f q (i + 1) (s ++ List.replicate g 0 ++ (seg d p).take (kept keep i p)) (p.un - p.fr - kept keep i p) with e | ⟨u, e⟩
        · exact .inr ⟨_, by rw [e, List.append_assoc]⟩
        · exact .inr ⟨_, by rw [e, List.append_assoc, List.append_assoc]⟩
      · rw [if_neg h0]
        rcases aft_tail keep d f q (i + 1) s (g + (p.un - p.fr)) with e | ⟨u, e⟩
        · exact .inl e
        · exact .inr ⟨List.replicate (p.un - p.fr) 0 ++ u, by rw [e, ← List.replicate_append_replicate, List.append_assoc]⟩
    · rw [if_neg hp]; exact aft_tail keep d f q (i + 1) s g
theorem recd_get (x : Bts) (j : Nat) : j < x.length + 7 → ∃ b, (recd x)[j]? = some b := fun h => ⟨_, List.getElem?_eq_getElem (by rw [recd_len]; omega)⟩
theorem recd_0 (x : Bts) : (recd x)[0]? = some 87 := rfl
theorem recd_last (x : Bts) : (recd x)[x.length + 6]? = some 233 := by
  show (87 :: (chk x ++ [byteN (crc (chk x) / 256), byteN (crc (chk x)), 233]))[x.length + 5 + 1]? = _
  rw [List.getElem?_cons_succ, List.getElem?_append_right (by simp [chk, len3])]
  have : x.length + 5 - (chk x).length = 2 := by simp [chk, len3] <;> omega
  rw [this]; rfl
/-- A record that did not survive as a whole is none. -/
theorem torn_no {x : Bts} (hx : x.length ≤ 1048576) {n : Nat} (hn : n < x.length + 7) {t : Bts} (ht : t = (recd x).take n ∨ ∃ u, t = (recd x).take n ++ (List.replicate (x.length + 7 - n) 0 ++ u)) : noRow t := by
  rintro y ⟨hy, r, e⟩
  have hl : ((recd x).take n).length = n := by rw [List.length_take, recd_len]; omega
  have lo : ∀ j, j < n → t[j]? = (recd x)[j]? := fun j hj => by
    rcases ht with rfl | ⟨u, rfl⟩
    · exact List.getElem?_take_of_lt hj
    · rw [List.getElem?_append_left (by omega)]; exact List.getElem?_take_of_lt hj
  have hi : ∀ j b, n ≤ j → j < x.length + 7 → t[j]? = some b → b = 0 := fun j b h1 h2 h => by
    rcases ht with rfl | ⟨u, rfl⟩
    · rw [List.getElem?_eq_none (by omega)] at h; cases h
    · rw [List.getElem?_append_right (by omega), hl, List.getElem?_append_left (by rw [List.length_replicate]; omega), List.getElem?_replicate] at h
      rw [if_pos (by omega)] at h; injection h with h; exact h.symm
  have ty : ∀ j, j < y.length + 7 → t[j]? = (recd y)[j]? := fun j hj => by rw [e, List.getElem?_append_left (by rw [recd_len]; omega)]
  have small : ∀ j, j < 7 → (t.getD j 0).toNat ≤ ((recd x).getD j 0).toNat := fun j hj => by
    rw [List.getD_eq_getElem?_getD, List.getD_eq_getElem?_getD]
    by_cases h : j < n
    · rw [lo j h]; exact Nat.le_refl _
    · cases hb : t[j]? with
      | none => exact Nat.zero_le _
      | some b => rw [hi j b (by omega) (by omega) hb]; exact Nat.zero_le _
  have toldt : told t ≤ x.length := by
    have h1 := small 1 (by omega)
    have h2 := small 2 (by omega)
    have h3 := small 3 (by omega)
    have h4 := told_recd hx ([] : Bts)
    rw [List.append_nil] at h4
    unfold told at h4 ⊢
    omega
  have hyl : y.length = told t := by rw [e]; exact (told_recd hy r).symm
  have hlast := ty (y.length + 6) (by omega)
  rw [recd_last] at hlast
  have hge : n ≤ y.length + 6 := by
    rcases Nat.lt_or_ge n 4 with h | h
    · omega
    · have : told t = x.length := by
        have h4 := told_recd hx ([] : Bts)
        rw [List.append_nil] at h4
        rw [← h4]; unfold told
        simp only [List.getD_eq_getElem?_getD, lo 1 (by omega), lo 2 (by omega), lo 3 (by omega)]
      omega
  have := hi _ _ hge (by omega) hlast
  cases this
/-- How many of the first appends of a file survive as a whole. -/
def lead (keep : List Int) (f : Nat) : Nat → List Pd → Nat
  | _, [] => 0
  | i, p :: q => if p.file = f then (if kept keep i p = p.un - p.fr then lead keep f (i + 1) q + 1 else 0) else lead keep f (i + 1) q
theorem rows_aft (keep : List Int) (d : Bts) (f : Nat) : ∀ (q : List Pd) (i : Nat) (R X : List Bts), (∀ x ∈ R, x.length ≤ 1048576) → (∀ x ∈ X, x.length ≤ 1048576) → (∀ p ∈ q, p.file = f → p.fr ≤ p.un ∧ p.un ≤ d.length) → (ofF f q).map (seg d) = X.map recd →
    rowsOf (aft keep d f i q (recs R) 0) = R ++ X.take (lead keep f i q)
  | [], i, R, X, hR, hX, hq, hs => by
    have : X = [] := by cases X with | nil => rfl | cons x X => simp [ofF] at hs
    subst this
    show rowsOf (recs R) = _
    rw [rowsOf_recs hR]; simp
  | p :: q, i, R, X, hR, hX, hq, hs => by
    rw [ofF_cons] at hs
    have hq' : ∀ p ∈ q, p.file = f → p.fr ≤ p.un ∧ p.un ≤ d.length := fun r hr => hq r (by simp [hr])
    by_cases hp : p.file = f
    · rw [if_pos hp] at hs
      obtain ⟨h1, h2⟩ := hq p (by simp) hp
      cases X with
      | nil => simp at hs
      | cons x X =>
        rw [List.map_cons, List.map_cons] at hs
        injection hs with hs1 hs2
        have hx := hX x (by simp)
        have hsl : p.un - p.fr = x.length + 7 := by
          have := congrArg List.length hs1
          rw [recd_len] at this
          unfold seg at this
          rw [List.length_take, List.length_drop] at this
          omega
        have hk := kept_le (keep := keep) (i := i) (p := p) h1
        unfold aft lead
        rw [if_pos hp, if_pos hp, hs1]
        by_cases hf : kept keep i p = p.un - p.fr
        · rw [if_pos hf, if_pos (by omega), hf, hsl, Nat.sub_self, List.replicate_zero, List.append_nil]
          have e : recs R ++ (recd x).take (x.length + 7) = recs (R ++ [x]) := by
            rw [List.take_of_length_le (by rw [recd_len]; exact Nat.le_refl _), recs_snoc]
          rw [e, rows_aft keep d f q (i + 1) (R ++ [x]) X (fun y hy => ?_) (fun y hy => hX y (by simp [hy])) hq' hs2]
          · simp
          · rcases List.mem_append.1 hy with hy | hy
            · exact hR y hy
            · obtain rfl := List.mem_singleton.1 hy; exact hx
        · rw [if_neg hf, List.take_zero, List.append_nil]
          obtain ⟨n, hn⟩ : ∃ n, kept keep i p = n := ⟨_, rfl⟩
          rw [hn] at hk hf
          rw [hn]
          have fin : ∀ t, (t = (recd x).take n ∨ ∃ u, t = (recd x).take n ++ (List.replicate (x.length + 7 - n) 0 ++ u)) → rowsOf (recs R ++ t) = R := fun t ht => by
            rw [rows_app hR, rowsOf_eq (x := t) (l := []) ⟨fun _ h => (by cases h), t, rfl, torn_no hx (by omega) ht⟩, List.append_nil]
          by_cases h0 : 0 < n
          · rw [if_pos h0, List.replicate_zero, List.append_nil]
            rcases aft_tail keep d f q (i + 1) (recs R ++ (recd x).take n) (p.un - p.fr - n) with e | ⟨u, e⟩
            · rw [e]; exact fin _ (.inl rfl)
            · rw [e, List.append_assoc, hsl]; exact fin _ (.inr ⟨u, rfl⟩)
          · rw [if_neg h0]
            have hn0 : n = 0 := by omega
            subst hn0
            rcases aft_tail keep d f q (i + 1) (recs R) (0 + (p.un - p.fr)) with e | ⟨u, e⟩
            · rw [e, show recs R = recs R ++ [] by simp]; exact fin _ (.inl rfl)
            · rw [e, Nat.zero_add, hsl]; exact fin _ (.inr ⟨u, rfl⟩)
    · rw [if_neg hp] at hs
      unfold aft lead
      rw [if_neg hp, if_neg hp]
      exact rows_aft keep d f q (i + 1) R X hR hX hq' hs
/-- A file of records of which the first are durable and each other waits alone. -/
structure Recs (s : St) (f : Nat) (R X : List Bts) : Prop where
  len : ∀ x ∈ R ++ X, x.length ≤ 1048576
  data : s.data f = recs (R ++ X)
  dur : s.dur f = (recs R).length
  segs : (ofF f s.q).map (seg (s.data f)) = X.map recd
theorem crash_rows {s : St} (hk : Ok s) (hc : Cov s) (hd : s.down = false) {f : Nat} (hf : f < 8) {R X : List Bts} (h : Recs s f R X) (keep : List Int) : rowsOf ((crash s keep).data f) = R ++ X.take (lead keep f 0 s.q) := by
  rw [crash_aft hk hc hd keep hf]
  have e : (s.data f).take (s.dur f) = recs R := by rw [h.data, h.dur, recs_app, List.take_left]
  rw [e]
  refine rows_aft keep (s.data f) f s.q 0 R X (fun x hx => h.len x (by simp [hx])) (fun x hx => h.len x (by simp [hx])) (fun p hp hpf => ?_) h.segs
  have := hk.q p hp
  rw [hpf] at this; exact ⟨this.2.1, this.2.2⟩
end DK
end Go.Proofs.Ytmnimcdbfolhaaa
namespace Go.Proofs.Ytmnimcdbfolhaaa
namespace DK
section
variable {s s' : St} {f g : Nat} {R X : List Bts}
theorem Recs.other (h : Recs s f R X) (hd : s'.data f = s.data f) (hu : s'.dur f = s.dur f) (hq : ofF f s'.q = ofF f s.q) : Recs s' f R X :=
  ⟨h.len, hd.trans h.data, hu.trans h.dur, by rw [hq, hd]; exact h.segs⟩
theorem seg_app {d x : Bts} {p : Pd} (h : p.un ≤ d.length) (h2 : p.fr ≤ p.un) : seg (d ++ x) p = seg d p := by
  unfold seg
  rw [List.drop_append_of_le_length (by omega), List.take_append_of_le_length (by rw [List.length_drop]; omega)]
theorem segs_app {d x : Bts} {q : List Pd} (h : ∀ p ∈ q, p.fr ≤ p.un ∧ p.un ≤ d.length) : q.map (seg (d ++ x)) = q.map (seg d) :=
  List.map_congr_left fun p hp => seg_app (h p hp).2 (h p hp).1
theorem Recs.app (h : Recs s f R X) (hk : Ok s) (x : Bts) (hx : x.length ≤ 1048576) :
    Recs { s with data := upd s.data f (s.data f ++ recd x), q := s.q ++ pend f (s.data f).length (recd x) } f R (X ++ [x]) := by
  have hp : pend f (s.data f).length (recd x) = [⟨f, (s.data f).length, (s.data f).length + (recd x).length⟩] := by
    unfold pend; rw [if_neg (by intro e; have := congrArg List.length e; rw [recd_len] at this; simp at this)]
  have ho : ∀ p ∈ ofF f s.q, p.fr ≤ p.un ∧ p.un ≤ (s.data f).length := fun p hp => by
    obtain ⟨h1, h2⟩ := ofF_mem hp
    have := hk.q p h1
    rw [h2] at this; exact ⟨this.2.1, this.2.2⟩
  refine ⟨fun y hy => ?_, ?_, h.dur, ?_⟩
  · rw [← List.append_assoc] at hy
    rcases List.mem_append.1 hy with hy | hy
    · exact h.len y hy
    · obtain rfl := List.mem_singleton.1 hy; exact hx
  · show upd _ _ _ _ = _
    rw [upd_same, h.data, ← List.append_assoc, recs_snoc]
  · show (ofF f (s.q ++ pend f (s.data f).length (recd x))).map (seg (upd s.data f (s.data f ++ recd x) f)) = _
    rw [upd_same, hp, ofF_app, ofF_cons, if_pos rfl, List.map_append, segs_app ho, h.segs, List.map_append]
    congr 1
    show [seg _ _] = [_]
    congr 1
    unfold seg
    rw [List.drop_left, show (s.data f).length + (recd x).length - (s.data f).length = (recd x).length by omega, List.take_length]
theorem Recs.flushed (h : Recs s f R X) : Recs (flushS s f) f (R ++ X) [] :=
  ⟨by rw [List.append_nil]; exact h.len, by rw [List.append_nil]; exact h.data, by show upd _ _ _ _ = _; rw [upd_same, h.data], by
    show (ofF f (s.q.filter fun p => !decide (p.file = f))).map _ = _
    rw [ofF_not, if_pos rfl]; rfl⟩
theorem Recs.all (hd : s.data f = recs R) (hu : s.dur f = (s.data f).length) (hq : ofF f s.q = []) (hl : ∀ x ∈ R, x.length ≤ 1048576) : Recs s f R [] :=
  ⟨by rw [List.append_nil]; exact hl, by rw [List.append_nil]; exact hd, by rw [hu, hd], by rw [hq]; rfl⟩
theorem opnS_q (s : St) (f : Nat) : ofF f (opnS s f).q = [] := by
  show ofF f ((opn2 (opn1 s f) f).q.filter fun p => !decide (p.file = f)) = []
  rw [ofF_not, if_pos rfl]
theorem opnS_recs (s : St) (f : Nat) : Recs (opnS s f) f (rowsOf (s.data f)) [] := Recs.all (opnS_data s f) (opnS_dur s f) (opnS_q s f) (rowsOf_is _).len
theorem opn1_ok (hk : Ok s) (f : Nat) : Ok (opn1 s f) := by unfold opn1; split; exact hk.cutS (by omega); exact hk
theorem opn2_ok (hk : Ok s) (f : Nat) : Ok (opn2 s f) := by unfold opn2; split; exact hk.cutS (by omega); exact hk
theorem opnS_ok (hk : Ok s) (f : Nat) : Ok (opnS s f) := (opn2_ok (opn1_ok hk f) f).flushS
theorem opn1_cov (hc : Cov s) {f : Nat} (hf : f < 8) : Cov (opn1 s f) := by unfold opn1; split; exact hc.cutS hf (by omega); exact hc
theorem opn2_cov (hc : Cov s) {f : Nat} (hf : f + 1 < 8) : Cov (opn2 s f) := by unfold opn2; split; exact hc.cutS hf (by omega); exact hc
theorem opnS_cov (hc : Cov s) {f : Nat} (hf : f + 1 < 8) : Cov (opnS s f) := (opn2_cov (opn1_cov hc (by omega)) hf).flushS f
/-- The effect of Rewrite on a disk that is up. -/
def rewS (s : St) (f : Nat) (m : List Bts) : St :=
  turnS (flushS { (opn2 s f) with data := upd (opn2 s f).data (f + 1) ((opn2 s f).data (f + 1) ++ recs m), q := (opn2 s f).q ++ pend (f + 1) ((opn2 s f).data (f + 1)).length (recs m) } (f + 1)) f (f + 1)
theorem no_after (q : List Pd) (f : Nat) : (q.filter fun p => !decide (p.file = f)).any (fun p => decide (p.file = f)) = false := by
  rw [List.any_eq_false]
  intro p hp
  have := (List.mem_filter.1 hp).2
  simpa using this
theorem wrew_up (h : Up s) (hf : f + 1 < 8) (R m : List Bts) (hm : (recs m).length ≤ 16777216) : wrewS s (f : Int) R m = (0, rewS s f m, m) := by
  have h2 : open2 s (f : Int) = (0, opn2 s f) := by
    unfold open2 opn2
    have e : DK.size s ((f : Int) + 1) = ((s.data (f + 1)).length : Int) := size_num (f := f + 1) (by omega)
    rw [e]
    by_cases q : 0 < (s.data (f + 1)).length
    · rw [if_pos (by omega), if_pos q]
      exact cut_up h (f := f + 1) (n := 0) (by omega) (Nat.zero_le _)
    · rw [if_neg (by omega), if_neg q]
  have hU := opn2_up h f
  have hD := opn2_data s f
  have hA := append_up hU (f := f + 1) hf (recs m) (by rw [hD]; show 0 + _ ≤ _; omega)
  unfold wrewS rewS
  rw [h2]
  obtain ⟨s2, e2⟩ : ∃ s2, s2 = opn2 s f := ⟨_, rfl⟩
  rw [← e2] at hU hD hA ⊢
  simp only [ne_eq, not_true_eq_false, if_false]
  have hA : DK.append s2 ((f : Int) + 1) (recs m) = _ := hA
  rw [hA]
  obtain ⟨s3, e3⟩ : ∃ s3, s3 = ({ s2 with data := upd s2.data (f + 1) (s2.data (f + 1) ++ recs m), q := s2.q ++ pend (f + 1) (s2.data (f + 1)).length (recs m) } : St) := ⟨_, rfl⟩
  rw [← e3]
  have hU3 : Up s3 := by rw [e3]; exact ⟨hU.down, hU.armed, hU.lost⟩
  simp only [not_true_eq_false, if_false]
  have hF : DK.flush s3 ((f : Int) + 1) = _ := flush_up hU3 (f := f + 1) hf
  rw [hF]
  simp only [not_true_eq_false, if_false]
  have hT : DK.turn (flushS s3 (f + 1)) (f : Int) ((f : Int) + 1) = _ := turn_up (hU3.flushS (f + 1)) (f := f) (g := f + 1) (by omega) hf (by omega)
  rw [hT, show (flushS s3 (f + 1)).q.any (fun p => decide (p.file = f + 1)) = false from no_after _ _]
  rfl
theorem opn2_q (s : St) {f k : Nat} (h : k ≠ f + 1) : ofF k (opn2 s f).q = ofF k s.q := by
  unfold opn2
  split
  · show ofF k ((s.q.filter _).map _) = _
    rw [ofF_cut, if_neg h]
  · rfl
theorem pend_of {f k n : Nat} {x : Bts} (h : k ≠ f) : ofF k (pend f n x) = [] := by
  unfold pend; split
  · rfl
  · rw [ofF_cons, if_neg (Ne.symm h)]; rfl
theorem rewS_data (s : St) (f : Nat) (m : List Bts) : (rewS s f m).data f = recs m ∧ (rewS s f m).dur f = (recs m).length ∧ (rewS s f m).data (f + 1) = [] ∧ (rewS s f m).dur (f + 1) = 0 := by
  have hD := opn2_data s f
  refine ⟨?_, ?_, ?_, ?_⟩
  · show upd (upd _ _ _) _ _ _ = _
    rw [upd_other _ _ (by omega), upd_same]
    show upd _ _ _ _ = _
    rw [upd_same, hD]; rfl
  · show upd (upd _ _ _) _ _ _ = _
    rw [upd_other _ _ (by omega), upd_same]
    show upd _ _ _ _ = _
    rw [upd_same]
    show List.length (upd _ _ _ _) = _
    rw [upd_same, hD]; rfl
  · show upd (upd _ _ _) _ _ _ = _
    rw [upd_same]
  · show upd (upd _ _ _) _ _ _ = _
    rw [upd_same]
theorem rewS_other (s : St) {f k : Nat} (m : List Bts) (h1 : k ≠ f) (h2 : k ≠ f + 1) : (rewS s f m).data k = s.data k ∧ (rewS s f m).dur k = s.dur k ∧ ofF k (rewS s f m).q = ofF k s.q := by
  refine ⟨?_, ?_, ?_⟩
  · show upd (upd _ _ _) _ _ _ = _
    rw [upd_other _ _ h2, upd_other _ _ h1]
    show upd _ _ _ _ = _
    rw [upd_other _ _ h2]; exact (opn2_other s h2).1
  · show upd (upd _ _ _) _ _ _ = _
    rw [upd_other _ _ h2, upd_other _ _ h1]
    show upd _ _ _ _ = _
    rw [upd_other _ _ h2]; exact (opn2_other s h2).2
  · show ofF k (((((opn2 s f).q ++ pend (f + 1) _ (recs m)).filter fun p => !decide (p.file = f + 1))).filter fun p => !decide (p.file = f)) = _
    rw [ofF_not, if_neg h1, ofF_not, if_neg h2, ofF_app, pend_of h2, List.append_nil, opn2_q s h2]
theorem rewS_q (s : St) (f : Nat) (m : List Bts) : ofF f (rewS s f m).q = [] ∧ ofF (f + 1) (rewS s f m).q = [] := by
  refine ⟨?_, ?_⟩
  · show ofF f (List.filter _ _) = []
    rw [ofF_not, if_pos rfl]
  · show ofF (f + 1) (List.filter _ (List.filter _ _)) = []
    rw [ofF_not, if_neg (by omega), ofF_not, if_pos rfl]
theorem rewS_recs (s : St) (f : Nat) {m : List Bts} (hm : ∀ x ∈ m, x.length ≤ 1048576) : Recs (rewS s f m) f m [] :=
  Recs.all (rewS_data s f m).1 (by rw [(rewS_data s f m).1, (rewS_data s f m).2.1]) (rewS_q s f m).1 hm
theorem rewS_up (h : Up s) (f : Nat) (m : List Bts) : Up (rewS s f m) := ⟨(opn2_up h f).down, (opn2_up h f).armed, (opn2_up h f).lost⟩
theorem crash_data (h : s.down = false) (keep : List Int) : (crash s keep).q = [] ∧ (crash s keep).lost = s.lost ∧ (crash s keep).armed = 0 := by
  unfold crash; rw [h]; exact ⟨rfl, rfl, rfl⟩
theorem crash_up (h : Up s) (keep : List Int) : Up (start (crash s keep)) := ⟨rfl, (crash_data h.down keep).2.2, (crash_data h.down keep).2.1.trans h.lost⟩
end
end DK
end Go.Proofs.Ytmnimcdbfolhaaa
namespace Go.Proofs.Ytmnimcdbfolhaaa
open Go.RowKit DK
attribute [local go_sem] alloc_drewN setCell_drewN shape_drewN
namespace DK
def appS (s : St) (f : Nat) (x : Bts) : St := { s with data := upd s.data f (s.data f ++ recd x), q := s.q ++ pend f (s.data f).length (recd x) }
/-- A disk that is up and in order. -/
structure G (s : St) : Prop where
  up : Up s
  ok : Ok s
  cov : Cov s
section
variable {s : St} {f : Nat}
theorem G.zero : G St.zero := ⟨Up.zero, Ok.zero, Cov.zero⟩
theorem appS_eq (h : Up s) (hf : f < 8) (x : Bts) (hl : (s.data f).length + (x.length + 7) ≤ 16777216) : DK.append s (f : Int) (recd x) = (0, appS s f x) := append_up h hf (recd x) (by rw [recd_len]; exact hl)
theorem G.app (h : G s) (hf : f < 8) (x : Bts) (hl : (s.data f).length + (x.length + 7) ≤ 16777216) : G (appS s f x) := by
  have e := appS_eq h.up hf x hl
  have h1 := h.up.append (f : Int) (recd x)
  have h2 := h.ok.append (f : Int) (recd x)
  have h3 := h.cov.append h.ok (f : Int) (recd x)
  rw [e] at h1 h2 h3
  exact ⟨h1, h2, h3⟩
theorem G.flush (h : G s) : G (flushS s f) := ⟨h.up.flushS f, h.ok.flushS, h.cov.flushS f⟩
theorem G.opn (h : G s) (hf : f + 1 < 8) : G (opnS s f) := ⟨opnS_up h.up f, opnS_ok h.ok f, opnS_cov h.cov hf⟩
theorem G.rew (h : G s) (hf : f + 1 < 8) (m : List Bts) (hm : (recs m).length ≤ 16777216) : G (rewS s f m) := by
  have hU := opn2_up h.up f
  have hO := opn2_ok h.ok f
  have hC := opn2_cov h.cov hf
  have hD := opn2_data s f
  have e := append_up hU (f := f + 1) hf (recs m) (by rw [hD]; show 0 + _ ≤ _; omega)
  have h2 := hO.append ((f + 1 : Nat) : Int) (recs m)
  have h3 := hC.append hO ((f + 1 : Nat) : Int) (recs m)
  rw [e] at h2 h3
  exact ⟨rewS_up h.up f m, Ok.turnS (h2.flushS (f := f + 1)) hf (no_after _ _), Cov.turnS (h3.flushS (f + 1)) (by omega) hf (by omega) (no_after _ _)⟩
theorem G.crashed (h : G s) (keep : List Int) : G (start (crash s keep)) := ⟨crash_up h.up keep, (h.ok.crash keep).start, h.cov.crash h.ok keep⟩
theorem wapp_g (h : G s) (hf : f < 8) (R : List Bts) (x : Bts) (hx : x.length ≤ 1048576) (hl : (s.data f).length + (x.length + 7) ≤ 16777216) : wappS s (f : Int) R x = (0, appS s f x, R ++ [x]) := wapp_up h.up hf R x hx hl
theorem lead_nil : ∀ (q : List Pd) (i : Nat), (∀ p ∈ q, p.file = f → p.fr < p.un) → lead [] f i q = 0
  | [], _, _ => rfl
  | p :: q, i, h => by
    unfold lead
    by_cases hp : p.file = f
    · have := h p (by simp) hp
      rw [if_pos hp, if_neg]
      show ¬ 0 = _
      omega
    · rw [if_neg hp]; exact lead_nil q (i + 1) fun r hr => h r (by simp [hr])
theorem G.pos (h : G s) (hf : f < 8) : ∀ p ∈ s.q, p.file = f → p.fr < p.un := fun p hp hpf => by
  have := (chain_le (h.cov f hf)).2 p (List.mem_filter.2 ⟨hp, decide_eq_true hpf⟩)
  exact this.2.1
theorem crash_none (h : G s) (hf : f < 8) {R X : List Bts} (hR : Recs s f R X) : rowsOf ((crash s []).data f) = R := by
  rw [crash_rows h.ok h.cov h.up.down hf hR, lead_nil _ _ (h.pos hf)]; simp
theorem wapp_down (h : s.down = true) (R : List Bts) (x : Bts) (hx : x.length ≤ 1048576) : wappS s (f : Int) R x = (9, s, R) := by
  unfold wappS DK.append
  rw [if_neg (by omega), h]; rfl
end
end DK
end Go.Proofs.Ytmnimcdbfolhaaa
