/- Plain law of WalLasts: what each act makes of a log, whatever crash is scheduled. -/
import Derived.Test.YtmnimcdbfolhaaaGP
set_option linter.unusedSimpArgs false
set_option linter.unusedVariables false
namespace Go.Proofs.Ytmnimcdbfolhaaa
namespace DK
theorem n139 : (13 : Int) ≠ 9 := by decide
theorem n09 : (0 : Int) ≠ 9 := by decide
theorem n89 : (8 : Int) ≠ 9 := by decide
theorem n80 : ¬ (8 : Int) = 0 := by decide
theorem n90 : ¬ (9 : Int) = 0 := by decide
/-- A log's file on a disk that is up: R0 durable, X waits. -/
structure Up2 (s : St) (R0 X : List Bts) : Prop where
  ok : Ok s
  cov : Cov s
  down : s.down = false
  recs : Recs s 2 R0 X
/-- Behind a call: the disk is down, and a front of the rows is left; or it is up, and nothing has turned. -/
def Out (v : Int) (s' : St) (R0 X : List Bts) : Prop := (v ≠ 9 ∧ Up2 s' R0 X) ∨ (v = 9 ∧ Ok s' ∧ Cov s' ∧ s'.down = true ∧ ∃ j, rowsOf (s'.data 2) = R0 ++ X.take j)
section
variable {s : St} {R0 X : List Bts}
theorem Up2.dueS (h : Up2 s R0 X) : Up2 (dueS s) R0 X := ⟨h.ok.dueS, h.cov, h.down, ⟨h.recs.len, h.recs.data, h.recs.dur, h.recs.segs⟩⟩
theorem Up2.crashed (h : Up2 s R0 X) (keep : List Int) : Out 9 (crash s keep) R0 X :=
  .inr ⟨rfl, h.ok.crash keep, h.cov.crash h.ok keep, crash_down keep, _, crash_rows h.ok h.cov h.down (by omega) h.recs keep⟩
theorem Up2.int_due (h : Up2 s R0 X) (hd : isDue s = true) : Out 9 (intS s) R0 X := by
  unfold intS; rw [if_pos hd]; exact h.dueS.crashed _
theorem addS_other {f g : Int} (x : Bts) (hn : num f = true) (h : g ≠ f) (hg : 0 ≤ g) : (addS s f x).data g.toNat = s.data g.toNat ∧ (addS s f x).dur g.toNat = s.dur g.toNat ∧ ofF g.toNat (addS s f x).q = ofF g.toNat s.q := by
  have hf := num_iff.1 hn
  unfold addS
  split
  · refine ⟨upd_other _ _ (by omega), rfl, ?_⟩
    show ofF g.toNat (s.q ++ [_]) = _
    rw [ofF_app, ofF_cons, if_neg (by show ¬ f.toNat = _; omega)]
    show _ ++ [] = _
    rw [List.append_nil]
  · exact ⟨rfl, rfl, rfl⟩
theorem Up2.add3 (h : Up2 s R0 X) (x : Bts) : Up2 (addS s 3 x) R0 X := by
  obtain ⟨h1, h2, h3⟩ := addS_other (s := s) (f := 3) (g := 2) x (by decide) (by decide) (by decide)
  refine ⟨h.ok.addS 3 x, Cov.addS h.cov 3 x, ?_, h.recs.other h1 h2 h3⟩
  unfold addS; split <;> exact h.down
theorem append3_out (h : Up2 s R0 X) (x : Bts) : Out (append s 3 x).1 (append s 3 x).2 R0 X := by
  unfold append
  rw [h.down]
  simp only [Bool.false_eq_true, if_false]
  by_cases hd : isDue s = true
  · rw [if_pos hd]; exact (h.dueS.add3 x).crashed _
  · rw [if_neg hd]
    refine .inl ⟨?_, h.dueS.add3 x⟩
    show addE s 3 x.length ≠ 9
    unfold addE; split
    · split <;> decide
    · decide
theorem flush3_out (h : Up2 s R0 X) : Out (flush s 3).1 (flush s 3).2 R0 X := by
  unfold flush
  rw [h.down]
  simp only [Bool.false_eq_true, if_false]
  by_cases hd : isDue s = true
  · rw [if_pos hd]; exact h.int_due hd
  · rw [if_neg hd, if_pos (show num 3 = true by decide)]
    split
    · exact .inl ⟨n139, ⟨h.dueS.ok.dur, h.dueS.ok.len, h.dueS.ok.q⟩, h.cov, h.down, ⟨h.recs.len, h.recs.data, h.recs.dur, h.recs.segs⟩⟩
    · refine .inl ⟨n09, h.dueS.ok.flushS, Cov.flushS h.dueS.cov _, h.down, h.recs.other rfl (show upd s.dur 3 (s.data 3).length 2 = s.dur 2 from upd_other _ _ (by decide)) ?_⟩
      show ofF 2 (s.q.filter fun p => !decide (p.file = 3)) = _
      rw [ofF_not, if_neg (by omega)]
theorem cut3_out (h : Up2 s R0 X) : Out (cut s 3 0).1 (cut s 3 0).2 R0 X := by
  have hok := h.ok.cut 3 0
  have hcv := h.cov.cut h.ok 3 0
  unfold cut at hok hcv ⊢
  rw [h.down] at hok hcv ⊢
  simp only [Bool.false_eq_true, if_false] at hok hcv ⊢
  by_cases hd : isDue s = true
  · rw [if_pos hd]; exact h.int_due hd
  · rw [if_neg hd] at hok hcv ⊢
    have hc : num 3 = true ∧ (0 : Int) ≤ 0 ∧ (0 : Int) ≤ ((s.data (3 : Int).toNat).length : Int) := ⟨by decide, by decide, by omega⟩
    rw [if_pos hc] at hok hcv ⊢
    refine .inl ⟨n09, hok, hcv, h.down, h.recs.other (show upd s.data 3 ((s.data 3).take 0) 2 = s.data 2 from upd_other _ _ (by decide)) (show upd s.dur 3 (min (s.dur 3) 0) 2 = s.dur 2 from upd_other _ _ (by decide)) ?_⟩
    show ofF 2 ((s.q.filter _).map _) = _
    rw [ofF_cut, if_neg (by decide)]
theorem open2_out (h : Up2 s R0 X) : Out (open2 s 2).1 (open2 s 2).2 R0 X := by
  unfold open2
  split
  · exact cut3_out h
  · exact .inl ⟨n09, h⟩
theorem flush2_out (h : Up2 s R0 X) : ((flush s 2).1 = 0 ∧ Up2 (flush s 2).2 (R0 ++ X) []) ∨ ((flush s 2).1 ≠ 0 ∧ Out (flush s 2).1 (flush s 2).2 R0 X) := by
  unfold flush
  rw [h.down]
  simp only [Bool.false_eq_true, if_false]
  by_cases hd : isDue s = true
  · rw [if_pos hd]; exact .inr ⟨by show (9 : Int) ≠ 0; decide, h.int_due hd⟩
  · rw [if_neg hd, if_pos (show num 2 = true by decide)]
    split
    · exact .inr ⟨by show (13 : Int) ≠ 0; decide, .inl ⟨by show (13 : Int) ≠ 9; decide, ⟨h.dueS.ok.dur, h.dueS.ok.len, h.dueS.ok.q⟩, h.cov, h.down, ⟨h.recs.len, h.recs.data, h.recs.dur, h.recs.segs⟩⟩⟩
    · exact .inl ⟨rfl, h.dueS.ok.flushS, Cov.flushS h.dueS.cov _, h.down, h.dueS.recs.flushed⟩
theorem Up2.add2 (h : Up2 s R0 X) (x : Bts) (hx : x.length ≤ 1048576) : Up2 (addS s 2 (recd x)) R0 (X ++ [x]) ∧ addE s 2 (recd x).length = 0 ∨ addS s 2 (recd x) = s ∧ addE s 2 (recd x).length = 8 := by
  by_cases hl : (s.data (2 : Int).toNat).length + (recd x).length ≤ 16777216
  · have hne : recd x ≠ [] := fun e => by have := congrArg List.length e; rw [recd_len] at this; simp at this
    have hc : num 2 = true ∧ (s.data (2 : Int).toNat).length + (recd x).length ≤ 16777216 ∧ recd x ≠ [] := ⟨by decide, hl, hne⟩
    have hr := h.recs.app h.ok x hx
    have e : addS s 2 (recd x) = { s with data := upd s.data 2 (s.data 2 ++ recd x), q := s.q ++ pend 2 (s.data 2).length (recd x) } := by
      unfold addS; rw [if_pos hc]; unfold pend; rw [if_neg hne]; rfl
    refine .inl ⟨⟨h.ok.addS 2 _, Cov.addS h.cov 2 _, by rw [e]; exact h.down, by rw [e]; exact hr⟩, ?_⟩
    unfold addE; rw [if_pos (show num 2 = true by decide), if_neg (by omega)]
  · refine .inr ⟨?_, ?_⟩
    · unfold addS; rw [if_neg (fun q => hl q.2.1)]
    · unfold addE; rw [if_pos (show num 2 = true by decide), if_pos (by omega)]
/-- Append. -/
theorem wapp_out (h : Up2 s R0 X) {R : List Bts} (hR : R = R0 ++ X) (x : Bts) (hx : x.length ≤ 1048576) {v : Int} {s' : St} {R' : List Bts} (hv : wappS s 2 R x = (v, s', R')) :
    (v ≠ 9 ∧ ∃ X', Up2 s' R0 X' ∧ R' = R0 ++ X') ∨ (v = 9 ∧ Ok s' ∧ Cov s' ∧ s'.down = true ∧ R' = R ∧ ∃ j, rowsOf (s'.data 2) = R0 ++ (X ++ [x]).take j) := by
  unfold wappS at hv
  rw [if_neg (by omega)] at hv
  unfold append at hv
  rw [h.down] at hv
  simp only [Bool.false_eq_true, if_false] at hv
  by_cases hd : isDue s = true
  · rw [if_pos hd] at hv
    injection hv with e1 e2
    injection e2 with e2 e3
    subst e1; subst e2
    right
    rcases h.dueS.add2 x hx with ⟨h1, _⟩ | ⟨h1, _⟩
    · obtain ⟨q, _⟩ | ⟨_, q1, q2, q3, j, q4⟩ := h1.crashed s.keep
      · exact absurd rfl q
      · exact ⟨rfl, q1, q2, q3, e3.symm, j, q4⟩
    · obtain ⟨q, _⟩ | ⟨_, q1, q2, q3, j, q4⟩ := h.dueS.crashed s.keep
      · exact absurd rfl q
      · show 9 = 9 ∧ Ok (crash (addS (dueS s) 2 (recd x)) s.keep) ∧ _
        rw [h1]
        refine ⟨rfl, q1, q2, q3, e3.symm, min j X.length, ?_⟩
        rw [q4, List.take_append_of_le_length (by omega)]
        congr 1
        by_cases hj : j ≤ X.length
        · rw [Nat.min_eq_left hj]
        · rw [Nat.min_eq_right (by omega), List.take_length, List.take_of_length_le (by omega)]
  · rw [if_neg hd] at hv
    injection hv with e1 e2
    injection e2 with e2 e3
    left
    rcases h.dueS.add2 x hx with ⟨h1, h2⟩ | ⟨h1, h2⟩
    · have h2' : addE s 2 (recd x).length = 0 := h2
      rw [h2'] at e1 e3
      rw [if_pos rfl] at e3
      subst e1; subst e2; subst e3
      exact ⟨n09, _, h1, by rw [hR, List.append_assoc]⟩
    · have h2' : addE s 2 (recd x).length = 8 := h2
      rw [h2'] at e1 e3
      rw [if_neg n80] at e3
      subst e1; subst e2; subst e3
      exact ⟨n89, X, by rw [h1]; exact h.dueS, hR⟩
theorem any_ofF {q : List Pd} {f : Nat} (h : ofF f q = []) : q.any (fun p => decide (p.file = f)) = false := by
  rw [List.any_eq_false]
  intro p hp
  unfold ofF at h
  rw [List.filter_eq_nil_iff] at h
  exact h p hp
/-- Rewrite. -/
theorem wrew_out (h : Up2 s R0 X) {R m : List Bts} (hm : ∀ x ∈ m, x.length ≤ 1048576) {v : Int} {s' : St} {R' : List Bts} (hv : wrewS s 2 R m = (v, s', R')) :
    (v = 0 ∧ R' = m ∧ Up2 s' m []) ∨ (v ≠ 0 ∧ R' = R ∧ Out v s' R0 X) := by
  have hd3 : (open2 s 2).1 = 0 → (open2 s 2).2.data 3 = [] := fun h0 => by
    unfold open2 at h0 ⊢
    by_cases q : 0 < DK.size s (2 + 1)
    · rw [if_pos q] at h0 ⊢
      unfold cut at h0 ⊢
      rw [h.down] at h0 ⊢
      simp only [Bool.false_eq_true, if_false] at h0 ⊢
      by_cases hd : isDue s = true
      · rw [if_pos hd] at h0; exact absurd h0 n90
      · rw [if_neg hd] at h0 ⊢
        have hc : num (2 + 1) = true ∧ (0 : Int) ≤ 0 ∧ (0 : Int) ≤ ((s.data ((2 : Int) + 1).toNat).length : Int) := ⟨by decide, by decide, by omega⟩
        rw [if_pos hc]
        rfl
    · rw [if_neg q] at *
      have e : DK.size s (2 + 1) = ((s.data 3).length : Int) := size_num (f := 3) (by omega)
      rw [e] at q
      exact List.eq_nil_of_length_eq_zero (show (s.data 3).length = 0 by omega)
  have o1 := open2_out h
  unfold wrewS at hv
  obtain ⟨v1, s1, e1⟩ : ∃ v1 s1, open2 s 2 = (v1, s1) := ⟨_, _, rfl⟩
  rw [e1] at hv o1 hd3
  by_cases g1 : v1 = 0
  case neg =>
    rw [if_pos g1] at hv
    injection hv with a1 a2
    injection a2 with a2 a3
    subst a1; subst a2; subst a3
    exact .inr ⟨g1, rfl, o1⟩
  rw [if_neg (by simpa using g1)] at hv
  dsimp only at hv
  have hd3 := hd3 g1
  dsimp only at hd3
  obtain ⟨_, h1⟩ | ⟨q, _⟩ := o1
  case inr => exact absurd (g1.symm.trans q) (by decide)
  have o2 := append3_out h1 (recs m)
  obtain ⟨v2, s2, e2⟩ : ∃ v2 s2, append s1 3 (recs m) = (v2, s2) := ⟨_, _, rfl⟩
  have e2' : append s1 (2 + 1) (recs m) = (v2, s2) := e2
  rw [e2] at o2
  rw [e2'] at hv
  by_cases g2 : v2 = 0
  case neg =>
    rw [if_pos g2] at hv
    injection hv with a1 a2
    injection a2 with a2 a3
    subst a1; subst a2; subst a3
    exact .inr ⟨g2, rfl, o2⟩
  rw [if_neg (by simpa using g2)] at hv
  dsimp only at hv
  obtain ⟨_, h2⟩ | ⟨q, _⟩ := o2
  case inr => exact absurd (g2.symm.trans q) (by decide)
  have d2 : s2.data 3 = recs m := by
    unfold append at e2
    rw [h1.down] at e2
    simp only [Bool.false_eq_true, if_false] at e2
    by_cases hd : isDue s1 = true
    · rw [if_pos hd] at e2; injection e2 with a1 a2; rw [← a1] at g2; exact absurd g2 (by decide)
    · rw [if_neg hd] at e2
      injection e2 with a1 a2
      rw [← a2]
      by_cases hc : num 3 = true ∧ ((dueS s1).data (3 : Int).toNat).length + (recs m).length ≤ 16777216 ∧ recs m ≠ []
      · unfold addS; rw [if_pos hc]
        show upd s1.data 3 (s1.data 3 ++ recs m) 3 = _
        rw [upd_same, hd3]; rfl
      · unfold addS; rw [if_neg hc]
        show s1.data 3 = _
        rw [hd3]
        by_cases hz : recs m = []
        · exact hz.symm
        · exfalso
          have : addE s1 3 (recs m).length = 8 := by
            unfold addE; rw [if_pos (show num 3 = true by decide), if_pos]
            have : ¬ ((dueS s1).data (3 : Int).toNat).length + (recs m).length ≤ 16777216 := fun q => hc ⟨by decide, q, hz⟩
            have e : ((dueS s1).data (3 : Int).toNat) = s1.data (3 : Int).toNat := rfl
            rw [e] at this; omega
          rw [this] at a1; rw [← a1] at g2; exact absurd g2 (by decide)
  have o3 := flush3_out h2
  obtain ⟨v3, s3, e3⟩ : ∃ v3 s3, flush s2 3 = (v3, s3) := ⟨_, _, rfl⟩
  have e3' : flush s2 (2 + 1) = (v3, s3) := e3
  rw [e3] at o3
  rw [e3'] at hv
  by_cases g3 : v3 = 0
  case neg =>
    rw [if_pos g3] at hv
    injection hv with a1 a2
    injection a2 with a2 a3
    subst a1; subst a2; subst a3
    exact .inr ⟨g3, rfl, o3⟩
  rw [if_neg (by simpa using g3)] at hv
  dsimp only at hv
  obtain ⟨_, h3⟩ | ⟨q, _⟩ := o3
  case inr => exact absurd (g3.symm.trans q) (by decide)
  have d3 : s3.data 3 = recs m ∧ s3.dur 3 = (recs m).length ∧ ofF 3 s3.q = [] := by
    unfold flush at e3
    rw [h2.down] at e3
    simp only [Bool.false_eq_true, if_false] at e3
    by_cases hd : isDue s2 = true
    · rw [if_pos hd] at e3; injection e3 with a1 a2; rw [← a1] at g3; exact absurd g3 (by decide)
    · rw [if_neg hd, if_pos (show num 3 = true by decide)] at e3
      by_cases hls : 0 < s2.lost
      · rw [if_pos hls] at e3; injection e3 with a1 a2; rw [← a1] at g3; exact absurd g3 (by decide)
      · rw [if_neg hls] at e3
        injection e3 with a1 a2
        rw [← a2]
        refine ⟨d2, ?_, ?_⟩
        · show upd s2.dur 3 (s2.data 3).length 3 = _
          rw [upd_same, d2]
        · show ofF 3 (s2.q.filter fun p => !decide (p.file = 3)) = []
          rw [ofF_not, if_pos rfl]
  obtain ⟨v4, s4, e4⟩ : ∃ v4 s4, turn s3 2 3 = (v4, s4) := ⟨_, _, rfl⟩
  have e4' : turn s3 2 (2 + 1) = (v4, s4) := e4
  rw [e4'] at hv
  have hok4 := h3.ok.turn 2 3
  have hcv4 := h3.cov.turn h3.ok 2 3
  rw [e4] at hok4 hcv4
  unfold turn at e4
  rw [h3.down] at e4
  simp only [Bool.false_eq_true, if_false] at e4
  by_cases hd : isDue s3 = true
  · rw [if_pos hd] at e4
    injection e4 with a1 a2
    have := h3.int_due hd
    rw [a2] at this
    subst a1
    rw [if_pos n90] at hv
    injection hv with b1 b2
    injection b2 with b2 b3
    subst b1; subst b2; subst b3
    exact .inr ⟨n90, rfl, this⟩
  · rw [if_neg hd, if_pos ⟨by decide, by decide, by decide⟩, if_neg (by rw [show (3 : Int).toNat = 3 from rfl, any_ofF d3.2.2]; decide)] at e4
    injection e4 with a1 a2
    subst a1
    rw [if_neg (show ¬ (0 : Int) ≠ 0 by decide)] at hv
    injection hv with b1 b2
    injection b2 with b2 b3
    subst b1; subst b2; subst b3
    refine .inl ⟨rfl, rfl, hok4, hcv4, by rw [← a2]; exact h3.down, ?_⟩
    rw [← a2]
    refine Recs.all ?_ ?_ ?_ hm
    · show upd (upd s3.data 2 (s3.data 3)) 3 [] 2 = _
      rw [upd_other _ _ (by decide), upd_same]; exact d3.1
    · show upd (upd s3.dur 2 (s3.dur 3)) 3 0 2 = (upd (upd s3.data 2 (s3.data 3)) 3 [] 2).length
      rw [upd_other _ _ (by decide), upd_same, upd_other _ _ (by decide), upd_same, d3.1, d3.2.1]
    · show ofF 2 (s3.q.filter fun p => !decide (p.file = 2)) = []
      rw [ofF_not, if_pos rfl]
end
end DK
end Go.Proofs.Ytmnimcdbfolhaaa
