/- Plain laws: how a file of records goes on from call to call, on a disk that is up. -/
import Derived.Test.YtmnimcdbfolhaaaCW
import Derived.Test.YtmnimcdbfolhaaaX2
set_option linter.unusedSimpArgs false
set_option linter.unusedVariables false
namespace Go.Proofs.Ytmnimcdbfolhaaa
namespace DK
section
variable {s s' : St} {f g : Nat} {R X : List Bts}
theorem Recs.other (h : Recs s f R X) (hd : s'.data f = s.data f) (hu : s'.dur f = s.dur f) (hq : ofF f s'.q = ofF f s.q) : Recs s' f R X :=
  ⟨h.len, hd.trans h.data, hu.trans h.dur, by rw [hq, hd]; exact h.segs⟩
theorem seg_app {d x : Bts} {p : Pd} (h : p.un ≤ d.length) (h2 : p.fr ≤ p.un) : seg (d ++ x) p = seg d p := by
  unfold seg
  rw [List.drop_append_of_le_length (by omega), List.take_append_of_le_length (by rw [List.length_drop]; omega)]
theorem segs_app {d x : Bts} {q : List Pd} (h : ∀ p ∈ q, p.fr ≤ p.un ∧ p.un ≤ d.length) : q.map (seg (d ++ x)) = q.map (seg d) :=
  List.map_congr_left fun p hp => seg_app (h p hp).2 (h p hp).1
theorem Recs.app (h : Recs s f R X) (hk : Ok s) (x : Bts) (hx : x.length ≤ 1048576) :
    Recs { s with data := upd s.data f (s.data f ++ recd x), q := s.q ++ pend f (s.data f).length (recd x) } f R (X ++ [x]) := by
  have hp : pend f (s.data f).length (recd x) = [⟨f, (s.data f).length, (s.data f).length + (recd x).length⟩] := by
    unfold pend; rw [if_neg (by intro e; have := congrArg List.length e; rw [recd_len] at this; simp at this)]
  have ho : ∀ p ∈ ofF f s.q, p.fr ≤ p.un ∧ p.un ≤ (s.data f).length := fun p hp => by
    obtain ⟨h1, h2⟩ := ofF_mem hp
    have := hk.q p h1
    rw [h2] at this; exact ⟨this.2.1, this.2.2⟩
  refine ⟨fun y hy => ?_, ?_, h.dur, ?_⟩
  · rw [← List.append_assoc] at hy
    rcases List.mem_append.1 hy with hy | hy
    · exact h.len y hy
    · obtain rfl := List.mem_singleton.1 hy; exact hx
  · show upd _ _ _ _ = _
    rw [upd_same, h.data, ← List.append_assoc, recs_snoc]
  · show (ofF f (s.q ++ pend f (s.data f).length (recd x))).map (seg (upd s.data f (s.data f ++ recd x) f)) = _
    rw [upd_same, hp, ofF_app, ofF_cons, if_pos rfl, List.map_append, segs_app ho, h.segs, List.map_append]
    congr 1
    show [seg _ _] = [_]
    congr 1
    unfold seg
    rw [List.drop_left, show (s.data f).length + (recd x).length - (s.data f).length = (recd x).length by omega, List.take_length]
theorem Recs.flushed (h : Recs s f R X) : Recs (flushS s f) f (R ++ X) [] :=
  ⟨by rw [List.append_nil]; exact h.len, by rw [List.append_nil]; exact h.data, by show upd _ _ _ _ = _; rw [upd_same, h.data], by
    show (ofF f (s.q.filter fun p => !decide (p.file = f))).map _ = _
    rw [ofF_not, if_pos rfl]; rfl⟩
theorem Recs.all (hd : s.data f = recs R) (hu : s.dur f = (s.data f).length) (hq : ofF f s.q = []) (hl : ∀ x ∈ R, x.length ≤ 1048576) : Recs s f R [] :=
  ⟨by rw [List.append_nil]; exact hl, by rw [List.append_nil]; exact hd, by rw [hu, hd], by rw [hq]; rfl⟩
theorem opnS_q (s : St) (f : Nat) : ofF f (opnS s f).q = [] := by
  show ofF f ((opn2 (opn1 s f) f).q.filter fun p => !decide (p.file = f)) = []
  rw [ofF_not, if_pos rfl]
theorem opnS_recs (s : St) (f : Nat) : Recs (opnS s f) f (rowsOf (s.data f)) [] := Recs.all (opnS_data s f) (opnS_dur s f) (opnS_q s f) (rowsOf_is _).len
theorem opn1_ok (hk : Ok s) (f : Nat) : Ok (opn1 s f) := by unfold opn1; split; exact hk.cutS (by omega); exact hk
theorem opn2_ok (hk : Ok s) (f : Nat) : Ok (opn2 s f) := by unfold opn2; split; exact hk.cutS (by omega); exact hk
theorem opnS_ok (hk : Ok s) (f : Nat) : Ok (opnS s f) := (opn2_ok (opn1_ok hk f) f).flushS
theorem opn1_cov (hc : Cov s) {f : Nat} (hf : f < 8) : Cov (opn1 s f) := by unfold opn1; split; exact hc.cutS hf (by omega); exact hc
theorem opn2_cov (hc : Cov s) {f : Nat} (hf : f + 1 < 8) : Cov (opn2 s f) := by unfold opn2; split; exact hc.cutS hf (by omega); exact hc
theorem opnS_cov (hc : Cov s) {f : Nat} (hf : f + 1 < 8) : Cov (opnS s f) := (opn2_cov (opn1_cov hc (by omega)) hf).flushS f
/-- The effect of Rewrite on a disk that is up. -/
def rewS (s : St) (f : Nat) (m : List Bts) : St :=
  turnS (flushS { (opn2 s f) with data := upd (opn2 s f).data (f + 1) ((opn2 s f).data (f + 1) ++ recs m), q := (opn2 s f).q ++ pend (f + 1) ((opn2 s f).data (f + 1)).length (recs m) } (f + 1)) f (f + 1)
theorem no_after (q : List Pd) (f : Nat) : (q.filter fun p => !decide (p.file = f)).any (fun p => decide (p.file = f)) = false := by
  rw [List.any_eq_false]
  intro p hp
  have := (List.mem_filter.1 hp).2
  simpa using this
theorem wrew_up (h : Up s) (hf : f + 1 < 8) (R m : List Bts) (hm : (recs m).length ≤ 16777216) : wrewS s (f : Int) R m = (0, rewS s f m, m) := by
  have h2 : open2 s (f : Int) = (0, opn2 s f) := by
    unfold open2 opn2
    have e : DK.size s ((f : Int) + 1) = ((s.data (f + 1)).length : Int) := size_num (f := f + 1) (by omega)
    rw [e]
    by_cases q : 0 < (s.data (f + 1)).length
    · rw [if_pos (by omega), if_pos q]
      exact cut_up h (f := f + 1) (n := 0) (by omega) (Nat.zero_le _)
    · rw [if_neg (by omega), if_neg q]
  have hU := opn2_up h f
  have hD := opn2_data s f
  have hA := append_up hU (f := f + 1) hf (recs m) (by rw [hD]; show 0 + _ ≤ _; omega)
  unfold wrewS rewS
  rw [h2]
  obtain ⟨s2, e2⟩ : ∃ s2, s2 = opn2 s f := ⟨_, rfl⟩
  rw [← e2] at hU hD hA ⊢
  simp only [ne_eq, not_true_eq_false, if_false]
  have hA : DK.append s2 ((f : Int) + 1) (recs m) = _ := hA
  rw [hA]
  obtain ⟨s3, e3⟩ : ∃ s3, s3 = ({ s2 with data := upd s2.data (f + 1) (s2.data (f + 1) ++ recs m), q := s2.q ++ pend (f + 1) (s2.data (f + 1)).length (recs m) } : St) := ⟨_, rfl⟩
  rw [← e3]
  have hU3 : Up s3 := by rw [e3]; exact ⟨hU.down, hU.armed, hU.lost⟩
  simp only [not_true_eq_false, if_false]
  have hF : DK.flush s3 ((f : Int) + 1) = _ := flush_up hU3 (f := f + 1) hf
  rw [hF]
  simp only [not_true_eq_false, if_false]
  have hT : DK.turn (flushS s3 (f + 1)) (f : Int) ((f : Int) + 1) = _ := turn_up (hU3.flushS (f + 1)) (f := f) (g := f + 1) (by omega) hf (by omega)
  rw [hT, show (flushS s3 (f + 1)).q.any (fun p => decide (p.file = f + 1)) = false from no_after _ _]
  rfl
theorem opn2_q (s : St) {f k : Nat} (h : k ≠ f + 1) : ofF k (opn2 s f).q = ofF k s.q := by
  unfold opn2
  split
  · show ofF k ((s.q.filter _).map _) = _
    rw [ofF_cut, if_neg h]
  · rfl
theorem pend_of {f k n : Nat} {x : Bts} (h : k ≠ f) : ofF k (pend f n x) = [] := by
  unfold pend; split
  · rfl
  · rw [ofF_cons, if_neg (Ne.symm h)]; rfl
theorem rewS_data (s : St) (f : Nat) (m : List Bts) : (rewS s f m).data f = recs m ∧ (rewS s f m).dur f = (recs m).length ∧ (rewS s f m).data (f + 1) = [] ∧ (rewS s f m).dur (f + 1) = 0 := by
  have hD := opn2_data s f
  refine ⟨?_, ?_, ?_, ?_⟩
  · show upd (upd _ _ _) _ _ _ = _
    rw [upd_other _ _ (by omega), upd_same]
    show upd _ _ _ _ = _
    rw [upd_same, hD]; rfl
  · show upd (upd _ _ _) _ _ _ = _
    rw [upd_other _ _ (by omega), upd_same]
    show upd _ _ _ _ = _
    rw [upd_same]
    show List.length (upd _ _ _ _) = _
    rw [upd_same, hD]; rfl
  · show upd (upd _ _ _) _ _ _ = _
    rw [upd_same]
  · show upd (upd _ _ _) _ _ _ = _
    rw [upd_same]
theorem rewS_other (s : St) {f k : Nat} (m : List Bts) (h1 : k ≠ f) (h2 : k ≠ f + 1) : (rewS s f m).data k = s.data k ∧ (rewS s f m).dur k = s.dur k ∧ ofF k (rewS s f m).q = ofF k s.q := by
  refine ⟨?_, ?_, ?_⟩
  · show upd (upd _ _ _) _ _ _ = _
    rw [upd_other _ _ h2, upd_other _ _ h1]
    show upd _ _ _ _ = _
    rw [upd_other _ _ h2]; exact (opn2_other s h2).1
  · show upd (upd _ _ _) _ _ _ = _
    rw [upd_other _ _ h2, upd_other _ _ h1]
    show upd _ _ _ _ = _
    rw [upd_other _ _ h2]; exact (opn2_other s h2).2
  · show ofF k (((((opn2 s f).q ++ pend (f + 1) _ (recs m)).filter fun p => !decide (p.file = f + 1))).filter fun p => !decide (p.file = f)) = _
    rw [ofF_not, if_neg h1, ofF_not, if_neg h2, ofF_app, pend_of h2, List.append_nil, opn2_q s h2]
theorem rewS_q (s : St) (f : Nat) (m : List Bts) : ofF f (rewS s f m).q = [] ∧ ofF (f + 1) (rewS s f m).q = [] := by
  refine ⟨?_, ?_⟩
  · show ofF f (List.filter _ _) = []
    rw [ofF_not, if_pos rfl]
  · show ofF (f + 1) (List.filter _ (List.filter _ _)) = []
    rw [ofF_not, if_neg (by omega), ofF_not, if_pos rfl]
theorem rewS_recs (s : St) (f : Nat) {m : List Bts} (hm : ∀ x ∈ m, x.length ≤ 1048576) : Recs (rewS s f m) f m [] :=
  Recs.all (rewS_data s f m).1 (by rw [(rewS_data s f m).1, (rewS_data s f m).2.1]) (rewS_q s f m).1 hm
theorem rewS_up (h : Up s) (f : Nat) (m : List Bts) : Up (rewS s f m) := ⟨(opn2_up h f).down, (opn2_up h f).armed, (opn2_up h f).lost⟩
theorem crash_data (h : s.down = false) (keep : List Int) : (crash s keep).q = [] ∧ (crash s keep).lost = s.lost ∧ (crash s keep).armed = 0 := by
  unfold crash; rw [h]; exact ⟨rfl, rfl, rfl⟩
theorem crash_up (h : Up s) (keep : List Int) : Up (start (crash s keep)) := ⟨rfl, (crash_data h.down keep).2.2, (crash_data h.down keep).2.1.trans h.lost⟩
end
end DK
end Go.Proofs.Ytmnimcdbfolhaaa
