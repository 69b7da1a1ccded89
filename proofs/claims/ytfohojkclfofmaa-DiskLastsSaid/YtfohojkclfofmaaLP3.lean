/- Plain law of DiskArms: a scheduled crash. -/
import Derived.Test.YtfohojkclfofmaaLP2
set_option linter.unusedSimpArgs false
set_option linter.unusedVariables false
namespace Go.Proofs.Ytfohojkclfofmaa
namespace DK
theorem take_of_zer (l : Bts) (x n m : Nat) (hm : m ≤ x) (hx : x ≤ n) (hn : n ≤ l.length) : (zer l x n).take m = l.take m := by
  have t2 : ∀ (l : Bts), l.take m = (l.take x).take m := fun l => by rw [List.take_take, Nat.min_eq_left hm]
  rw [t2 (zer l x n), zer_take l x n hx hn, ← t2]
/-- What stands ahead of all that a crash strikes out. -/
theorem crD_keep {s : St} (h : Ok s) (keep : List Int) {f m : Nat} (hf : f < 8) (hm : ∀ (i : Nat) (p : Pd), s.q[i]? = some p → p.file = f → m ≤ p.fr + kept keep i p) (k : Nat) : (crD keep s.q s.data k f).take m = (s.data f).take m := by
  induction k with
  | zero => rfl
  | succ k ih =>
    cases hq : s.q[k]? with
    | none => simp only [crD, hq]; exact ih
    | some p =>
      have hp := h.q p (List.mem_of_getElem? hq)
      rw [crD_at hq]
      by_cases e : f = p.file
      · subst e
        rw [upd_same, take_of_zer _ _ _ _ (hm k p hq rfl) (kept_le hp.2.1) (by rw [crD_len h keep k _ hp.1]; exact hp.2.2)]; exact ih
      · rw [upd_other _ _ e]; exact ih
theorem kept_none {keep : List Int} {i : Nat} (h : keep.length ≤ i) (p : Pd) : kept keep i p = 0 := by unfold kept; rw [List.getElem?_eq_none h]
structure ArU (n kp : Int) (l : List Bts) (k calls : Nat) (safe rest first : Bts) (s : St) : Prop where
  ok : Ok s
  down : s.down = false
  armed : (s.armed : Int) + calls = n
  pos : 1 ≤ s.armed
  lost : s.lost = 0
  keep : s.keep = [kp]
  data : s.data 0 = safe ++ rest
  dur : s.dur 0 = safe.length
  all : safe ++ rest = (l.take k).flatten
  q : (first = [] ∧ s.q = [] ∧ rest = []) ∨ (∃ q', s.q = ⟨0, safe.length, safe.length + first.length⟩ :: q' ∧ first ≠ [] ∧ ∀ p ∈ q', p.file = 0 ∧ safe.length + first.length ≤ p.fr)
  fr : ∃ r, rest = first ++ r
structure ArD (kp : Int) (safe first : Bts) (s : St) : Prop where
  down : s.down = true
  data : s.data 0 = safe ++ first.take (clamp kp first.length)
  len : safe.length + first.length ≤ 20000
section
variable {n kp : Int} {l : List Bts} {k calls : Nat} {safe rest first x : Bts} {s : St}
/-- What the crash leaves. -/
theorem ar_crash (hok : Ok s) (hd : s.down = false) (h1 : s.data 0 = safe ++ rest) (h2 : s.dur 0 = safe.length) (hr : ∃ r, rest = first ++ r)
    (hq : (first = [] ∧ s.q = [] ∧ rest = []) ∨ (∃ q', s.q = ⟨0, safe.length, safe.length + first.length⟩ :: q' ∧ first ≠ [] ∧ ∀ p ∈ q', p.file = 0 ∧ safe.length + first.length ≤ p.fr)) (hl : safe.length + first.length ≤ 20000) : ArD kp safe first (crash s [kp]) := by
  refine ⟨crash_down _, ?_, hl⟩
  rcases hq with ⟨rfl, hq, rfl⟩ | ⟨q', hq, hne, hq'⟩
  · rw [crash_quiet hd [kp] (fun p hp => by rw [hq] at hp; cases hp), h1, h2, List.append_nil, List.take_length]; simp
  · obtain ⟨r, rfl⟩ := hr
    have hc := clamp_le kp first.length
    have e0 : kept [kp] 0 ⟨0, safe.length, safe.length + first.length⟩ = clamp kp first.length := by
      rw [kept_at rfl]; unfold clamp; rw [show ((safe.length + first.length : Nat) : Int) - (safe.length : Nat) = (first.length : Int) by omega]
    have hU : ∀ k, crU [kp] s.q s.dur (k + 1) 0 = safe.length + clamp kp first.length := by
      intro k
      induction k with
      | zero =>
        rw [crU_at (k := 0) (p := ⟨0, safe.length, safe.length + first.length⟩) (by rw [hq]; rfl), e0]
        split
        · rw [upd_same]
        · show s.dur 0 = _; rw [h2]; omega
      | succ k ih =>
        cases e : s.q[k + 1]? with
        | none => simp only [crU, e]; simp only [crU] at ih; exact ih
        | some p => rw [crU_at e, kept_none (by simp), if_neg (by omega)]; exact ih
    obtain ⟨j, hj⟩ : ∃ j, s.q.length = j + 1 := ⟨q'.length, by rw [hq]; rfl⟩
    unfold crash; rw [if_neg (by rw [hd]; simp)]
    show List.take (crU [kp] s.q s.dur s.q.length 0) (crD [kp] s.q s.data s.q.length 0) = _
    rw [hj, hU j, crD_keep hok [kp] (by omega), h1]
    · rw [List.take_append, List.take_of_length_le (by omega), show safe.length + clamp kp first.length - safe.length = clamp kp first.length by omega, List.take_append_of_le_length hc]
    · intro i p hp hf
      cases i with
      | zero => rw [hq] at hp; injection hp with hp; subst hp; rw [e0]; exact Nat.le_refl _
      | succ i =>
        have : p ∈ q' := by rw [hq] at hp; exact List.mem_of_getElem? (show q'[i]? = some p from hp)
        have := (hq' p this).2; omega
variable (h : ArU n kp l k calls safe rest first s)
include h
theorem ArU.isDue : isDue s = decide ((calls : Int) + 1 = n) := by
  unfold DK.isDue
  have := h.armed
  by_cases e : s.armed = 1
  · rw [e]; symm; simp; omega
  · rw [show (s.armed == 1) = false by simpa using e]; symm; simp; omega
theorem ArU.firstLe : safe.length + first.length ≤ ((l.take k).flatten).length := by
  obtain ⟨r, e⟩ := h.fr
  have := h.all
  rw [e] at this
  rw [← this]; simp only [List.length_append]; omega
omit h in
theorem flat_le {l : List Bts} (k : Nat) : ((l.take k).flatten).length ≤ l.flatten.length := by
  have : l = l.take k ++ l.drop k := (List.take_append_drop k l).symm
  conv => rhs; rw [this]
  rw [List.flatten_append, List.length_append]; omega
omit h in
theorem flat_next (hx : l[k]? = some x) : (l.take (k + 1)).flatten = (l.take k).flatten ++ x := by
  rw [List.take_add_one, hx]; simp
theorem ArU.added (hx : l[k]? = some x) (ht : l.flatten.length ≤ 20000) :
    Ok (addS (dueS s) 0 x) ∧ (addS (dueS s) 0 x).down = false ∧ (addS (dueS s) 0 x).data 0 = safe ++ (rest ++ x) ∧ (addS (dueS s) 0 x).dur 0 = safe.length ∧ (∃ r, rest ++ x = (if first = [] then x else first) ++ r) ∧
    (((if first = [] then x else first) = [] ∧ (addS (dueS s) 0 x).q = [] ∧ rest ++ x = []) ∨ (∃ q', (addS (dueS s) 0 x).q = ⟨0, safe.length, safe.length + (if first = [] then x else first).length⟩ :: q' ∧ (if first = [] then x else first) ≠ [] ∧ ∀ p ∈ q', p.file = 0 ∧ safe.length + (if first = [] then x else first).length ≤ p.fr)) ∧ addE (dueS s) 0 x.length = 0 ∧ (addS (dueS s) 0 x).armed = s.armed - 1 ∧ (addS (dueS s) 0 x).lost = s.lost ∧ (addS (dueS s) 0 x).keep = s.keep := by
  have hlen : (s.data 0).length + x.length ≤ 20000 := by
    have h1 := flat_le (l := l) (k + 1)
    rw [flat_next hx, List.length_append, ← h.all, ← h.data] at h1; omega
  have hr : ∃ r, rest ++ x = (if first = [] then x else first) ++ r := by
    by_cases e : first = []
    · rw [if_pos e]
      rcases h.q with ⟨_, _, e2⟩ | ⟨_, _, e2, _⟩
      · exact ⟨[], by rw [e2]; simp⟩
      · exact absurd e e2
    · rw [if_neg e]; obtain ⟨r, e2⟩ := h.fr; exact ⟨r ++ x, by rw [e2, List.append_assoc]⟩
  have e1 : addE (dueS s) 0 x.length = 0 := by
    unfold addE; rw [if_pos (by decide), if_neg (by show ¬ _ < (s.data 0).length + _; omega)]
  by_cases hx0 : x = []
  · subst hx0
    have e2 : addS (dueS s) 0 [] = dueS s := by unfold addS; rw [if_neg (fun q => q.2.2 rfl)]
    rw [e2, List.append_nil]
    rw [List.append_nil] at hr
    have e3 : (if first = [] then [] else first) = first := by split <;> simp_all
    rw [e3] at hr ⊢
    refine ⟨h.ok.dueS, h.down, h.data, h.dur, hr, ?_, e1, rfl, rfl, rfl⟩
    exact h.q
  · have e2 : addS (dueS s) 0 x = { dueS s with data := upd s.data 0 (s.data 0 ++ x), q := s.q ++ [⟨0, (s.data 0).length, (s.data 0).length + x.length⟩] } := by
      unfold addS; rw [if_pos ⟨by decide, by show (s.data 0).length + _ ≤ _; omega, hx0⟩]; rfl
    refine ⟨h.ok.dueS.addS 0 x, by rw [e2]; exact h.down, by rw [e2]; show upd s.data 0 (s.data 0 ++ x) 0 = _; rw [upd_same, h.data, List.append_assoc], by rw [e2]; exact h.dur, hr, ?_, e1, by rw [e2]; rfl, by rw [e2]; rfl, by rw [e2]; rfl⟩
    rw [e2]
    right
    rcases h.q with ⟨e3, e4, e5⟩ | ⟨q', e4, e3, e5⟩
    · refine ⟨[], ?_, by rw [if_pos e3]; exact hx0, fun p hp => by cases hp⟩
      show s.q ++ _ = _
      rw [e4, h.data, e5, if_pos e3, List.append_nil]; rfl
    · refine ⟨q' ++ [⟨0, (s.data 0).length, (s.data 0).length + x.length⟩], ?_, by rw [if_neg e3]; exact e3, fun p hp => ?_⟩
      · show s.q ++ _ = _
        rw [e4, if_neg e3]; rfl
      · rw [if_neg e3]
        rcases List.mem_append.1 hp with hp | hp
        · exact e5 p hp
        · obtain rfl := List.mem_singleton.1 hp
          refine ⟨rfl, ?_⟩
          show _ ≤ (s.data 0).length
          obtain ⟨r, e6⟩ := h.fr
          rw [h.data, e6]; simp only [List.length_append]; omega
theorem ArU.app_due (hx : l[k]? = some x) (ht : l.flatten.length ≤ 20000) (hn : (calls : Int) + 1 = n) :
    (append s 0 x).1 = 9 ∧ ArD kp safe (if first = [] then x else first) (append s 0 x).2 := by
  have hd : DK.isDue s = true := by rw [h.isDue]; exact decide_eq_true hn
  have e : append s 0 x = (9, crash (addS (dueS s) 0 x) [kp]) := by
    unfold append; rw [if_neg (by rw [h.down]; simp), if_pos hd, h.keep]
  obtain ⟨a1, a2, a3, a4, a5, a6, _⟩ := h.added hx ht
  rw [e]
  refine ⟨rfl, ar_crash a1 a2 a3 a4 a5 a6 ?_⟩
  obtain ⟨r, e2⟩ := a5
  have h1 := flat_le (l := l) (k + 1)
  rw [flat_next hx, ← h.all, List.append_assoc, e2] at h1
  simp only [List.length_append] at h1; omega
theorem ArU.app (hx : l[k]? = some x) (ht : l.flatten.length ≤ 20000) (hn : (calls : Int) + 1 < n) :
    (append s 0 x).1 = 0 ∧ ArU n kp l (k + 1) (calls + 1) safe (rest ++ x) (if first = [] then x else first) (append s 0 x).2 := by
  have hd : DK.isDue s = false := by rw [h.isDue]; exact decide_eq_false (by omega)
  obtain ⟨a1, a2, a3, a4, a5, a6, a7, a8, a9, a10⟩ := h.added hx ht
  have e : append s 0 x = (0, addS (dueS s) 0 x) := by
    unfold append; rw [if_neg (by rw [h.down]; simp), if_neg (by rw [hd]; simp)]; exact Prod.ext a7 rfl
  have ha := h.armed
  rw [e]
  exact ⟨rfl, a1, a2, by rw [a8]; omega, by rw [a8]; omega, a9.trans h.lost, a10.trans h.keep, a3, a4, by rw [← List.append_assoc, h.all, flat_next hx], a6, a5⟩
theorem ArU.flush_due (ht : l.flatten.length ≤ 20000) (hn : (calls : Int) + 1 = n) : (flush s 0).1 = 9 ∧ ArD kp safe first (flush s 0).2 := by
  have hd : DK.isDue s = true := by rw [h.isDue]; exact decide_eq_true hn
  have e : flush s 0 = (9, crash (dueS s) [kp]) := by
    unfold flush; rw [if_neg (by rw [h.down]; simp), if_pos hd]; unfold intS; rw [if_pos hd, h.keep]
  rw [e]
  exact ⟨rfl, ar_crash (s := dueS s) h.ok.dueS h.down h.data h.dur h.fr h.q (Nat.le_trans h.firstLe (Nat.le_trans (flat_le k) ht))⟩
theorem ArU.flush (hn : (calls : Int) + 1 < n) : (flush s 0).1 = 0 ∧ ArU n kp l k (calls + 1) (safe ++ rest) [] [] (flush s 0).2 := by
  have hd : DK.isDue s = false := by rw [h.isDue]; exact decide_eq_false (by omega)
  have e : DK.flush s 0 = (0, flushS (dueS s) 0) := by
    unfold DK.flush; rw [if_neg (by rw [h.down]; simp), if_neg (by rw [hd]; simp), if_pos (by decide), if_neg (by rw [h.lost]; omega)]; rfl
  have ha := h.armed
  rw [e]
  refine ⟨rfl, Ok.flushS h.ok.dueS, h.down, ?_, ?_, h.lost, h.keep, ?_, ?_, ?_, ?_, ⟨[], rfl⟩⟩
  · show ((s.armed - 1 : Nat) : Int) + _ = _; omega
  · show 1 ≤ s.armed - 1; omega
  · show s.data 0 = _; rw [h.data, List.append_nil]
  · show upd s.dur 0 (s.data 0).length 0 = _; rw [upd_same, h.data]
  · rw [List.append_nil]; exact h.all
  · left
    refine ⟨rfl, ?_, rfl⟩
    show List.filter _ s.q = []
    rw [List.filter_eq_nil_iff]
    intro p hp
    rcases h.q with ⟨_, e4, _⟩ | ⟨q', e4, _, e5⟩
    · rw [e4] at hp; cases hp
    · rw [e4] at hp
      rcases List.mem_cons.1 hp with rfl | hp
      · simp
      · simp [(e5 p hp).1]
end
/-- Armed anew. -/
theorem ar_begin {n : Int} (kp : Int) (l : List Bts) (hn : 1 ≤ n) : ArU n kp l 0 0 [] [] [] (arm St.zero n [kp]) :=
  ⟨Ok.zero.arm n [kp], rfl, by show ((n.toNat : Nat) : Int) + 0 = n; omega, by show 1 ≤ n.toNat; omega, rfl, if_pos hn, rfl, rfl, rfl, .inl ⟨rfl, rfl, rfl⟩, ⟨[], rfl⟩⟩
end DK
end Go.Proofs.Ytfohojkclfofmaa
