/- Plain words of the disk: its state, and what each call makes of it. -/
set_option linter.unusedSimpArgs false
set_option linter.unusedVariables false
namespace Go.Proofs.Ytmnimcdbfolhaaa
namespace DK
abbrev Bts := List UInt8
structure Pd where
  file : Nat
  fr : Nat
  un : Nat
structure St where
  data : Nat → Bts
  dur : Nat → Nat
  q : List Pd
  down : Bool
  lost : Nat
  armed : Nat
  keep : List Int
def St.zero : St := ⟨fun _ => [], fun _ => 0, [], false, 0, 0, []⟩
def upd {α : Type} (g : Nat → α) (f : Nat) (v : α) : Nat → α := fun k => if k = f then v else g k
theorem upd_same {α : Type} (g : Nat → α) (f : Nat) (v : α) : upd g f v f = v := if_pos rfl
theorem upd_other {α : Type} (g : Nat → α) {f k : Nat} (v : α) (h : k ≠ f) : upd g f v k = g k := if_neg h
theorem upd_self {α : Type} (g : Nat → α) (f : Nat) : upd g f (g f) = g := funext fun k => by unfold upd; split <;> simp_all
/-- The bytes from a on, before b, struck out. -/
def zer (l : Bts) (a b : Nat) : Bts := l.take a ++ List.replicate (b - a) 0 ++ l.drop b
theorem zer_len {l : Bts} {a b : Nat} (h1 : a ≤ b) (h2 : b ≤ l.length) : (zer l a b).length = l.length := by
  unfold zer
  simp only [List.length_append, List.length_take, List.length_replicate, List.length_drop]
  omega
/-- How many bytes survive of the append that stands at place i. -/
def kept (keep : List Int) (i : Nat) (p : Pd) : Nat := match keep[i]? with
  | some k => (max 0 (min k ((p.un : Int) - p.fr))).toNat
  | none => 0
theorem kept_le {keep : List Int} {i : Nat} {p : Pd} (h : p.fr ≤ p.un) : p.fr + kept keep i p ≤ p.un := by
  unfold kept
  split <;> omega
def crD (keep : List Int) (q : List Pd) (d : Nat → Bts) : Nat → Nat → Bts
  | 0 => d
  | k + 1 => match q[k]? with
    | some p => upd (crD keep q d k) p.file (zer (crD keep q d k p.file) (p.fr + kept keep k p) p.un)
    | none => crD keep q d k
def crU (keep : List Int) (q : List Pd) (u : Nat → Nat) : Nat → Nat → Nat
  | 0 => u
  | k + 1 => match q[k]? with
    | some p => if 0 < kept keep k p then upd (crU keep q u k) p.file (p.fr + kept keep k p) else crU keep q u k
    | none => crU keep q u k
theorem crD_at {keep : List Int} {q : List Pd} {d : Nat → Bts} {k : Nat} {p : Pd} (h : q[k]? = some p) : crD keep q d (k + 1) = upd (crD keep q d k) p.file (zer (crD keep q d k p.file) (p.fr + kept keep k p) p.un) := by
  simp only [crD, h]
theorem crU_at {keep : List Int} {q : List Pd} {u : Nat → Nat} {k : Nat} {p : Pd} (h : q[k]? = some p) : crU keep q u (k + 1) = if 0 < kept keep k p then upd (crU keep q u k) p.file (p.fr + kept keep k p) else crU keep q u k := by
  simp only [crU, h]
/-- What a machine keeps: each pending append lies in its file, the durable bytes too; no file is greater than the limit. -/
structure Ok (s : St) : Prop where
  dur : ∀ f, f < 8 → s.dur f ≤ (s.data f).length
  len : ∀ f, f < 8 → (s.data f).length ≤ 16777216
  q : ∀ p ∈ s.q, p.file < 8 ∧ p.fr ≤ p.un ∧ p.un ≤ (s.data p.file).length
theorem Ok.zero : Ok St.zero := ⟨fun _ _ => Nat.le_refl _, fun _ _ => Nat.zero_le _, fun _ h => by cases h⟩
section
variable {s : St} (h : Ok s) (keep : List Int)
include h
theorem crD_len (k : Nat) : ∀ f, f < 8 → (crD keep s.q s.data k f).length = (s.data f).length := by
  induction k with
  | zero => exact fun _ _ => rfl
  | succ k ih =>
    intro f hf
    cases hq : s.q[k]? with
    | none => simp only [crD, hq]; exact ih f hf
    | some p =>
      have hp := h.q p (List.mem_of_getElem? hq)
      rw [crD_at hq]
      by_cases e : f = p.file
      · rw [e, upd_same, zer_len (kept_le hp.2.1) (by rw [ih _ hp.1]; exact hp.2.2)]
        exact ih _ hp.1
      · rw [upd_other _ _ e]; exact ih f hf
theorem crU_le (k : Nat) : ∀ f, f < 8 → crU keep s.q s.dur k f ≤ (s.data f).length := by
  induction k with
  | zero => exact h.dur
  | succ k ih =>
    intro f hf
    cases hq : s.q[k]? with
    | none => simp only [crU, hq]; exact ih f hf
    | some p =>
      have hp := h.q p (List.mem_of_getElem? hq)
      rw [crU_at hq]
      split
      · by_cases e : f = p.file
        · rw [e, upd_same]; exact Nat.le_trans (kept_le hp.2.1) hp.2.2
        · rw [upd_other _ _ e]; exact ih f hf
      · exact ih f hf
end
def crash (s : St) (keep : List Int) : St := if s.down then s else
  { data := fun f => (crD keep s.q s.data s.q.length f).take (crU keep s.q s.dur s.q.length f), dur := crU keep s.q s.dur s.q.length, q := [], down := true, lost := s.lost, armed := 0, keep := [] }
def isDue (s : St) : Bool := s.armed == 1
def dueS (s : St) : St := { s with armed := s.armed - 1 }
def num (f : Int) : Bool := decide (0 ≤ f) && decide (f < 8)
def addE (s : St) (f : Int) (n : Nat) : Int := if num f then (if 16777216 < (s.data f.toNat).length + n then 8 else 0) else 1
def addS (s : St) (f : Int) (x : Bts) : St := if num f = true ∧ (s.data f.toNat).length + x.length ≤ 16777216 ∧ x ≠ [] then
  { s with data := upd s.data f.toNat (s.data f.toNat ++ x), q := s.q ++ [⟨f.toNat, (s.data f.toNat).length, (s.data f.toNat).length + x.length⟩] } else s
def append (s : St) (f : Int) (x : Bts) : Int × St :=
  if s.down then (9, s) else if isDue s then (9, crash (addS (dueS s) f x) s.keep) else (addE s f x.length, addS (dueS s) f x)
def intS (s : St) : St := if isDue s then crash (dueS s) s.keep else dueS s
def flushS (s : St) (f : Nat) : St := { s with dur := upd s.dur f (s.data f).length, q := s.q.filter (fun p => !decide (p.file = f)) }
def flush (s : St) (f : Int) : Int × St :=
  if s.down then (9, s) else if isDue s then (9, intS s) else if num f then (if 0 < s.lost then (13, { dueS s with lost := s.lost - 1 }) else (0, flushS (dueS s) f.toNat)) else (1, dueS s)
def cutS (s : St) (f n : Nat) : St :=
  { s with data := upd s.data f ((s.data f).take n), dur := upd s.dur f (min (s.dur f) n), q := (s.q.filter (fun p => !(decide (p.file = f) && decide (n ≤ p.fr)))).map (fun p => if p.file = f then { p with un := min p.un n } else p) }
def cut (s : St) (f n : Int) : Int × St :=
  if s.down then (9, s) else if isDue s then (9, intS s) else if num f = true ∧ 0 ≤ n ∧ n ≤ (s.data f.toNat).length then (0, cutS (dueS s) f.toNat n.toNat) else (1, dueS s)
def turnS (s : St) (f g : Nat) : St :=
  { s with data := upd (upd s.data f (s.data g)) g [], dur := upd (upd s.dur f (s.dur g)) g 0, q := s.q.filter (fun p => !decide (p.file = f)) }
def turn (s : St) (f g : Int) : Int × St :=
  if s.down then (9, s) else if isDue s then (9, intS s) else if num f = true ∧ num g = true ∧ f ≠ g then (if s.q.any (fun p => decide (p.file = g.toNat)) then (10, dueS s) else (0, turnS (dueS s) f.toNat g.toNat)) else (1, dueS s)
def lose (s : St) (n : Int) : St := { s with lost := n.toNat }
def arm (s : St) (n : Int) (keep : List Int) : St := { s with armed := n.toNat, keep := if 1 ≤ n then keep else [] }
def start (s : St) : St := { s with down := false }
def read (s : St) (f : Int) : Bts × Int := if s.down then ([], 9) else if num f then (s.data f.toNat, 0) else ([], 1)
def size (s : St) (f : Int) : Int := if num f then ((s.data f.toNat).length : Int) else 0
theorem num_iff {f : Int} : num f = true ↔ 0 ≤ f ∧ f < 8 := by simp [num]
theorem num_lt {f : Int} (h : num f = true) : f.toNat < 8 := by have := num_iff.1 h; omega
section
variable {s : St} (h : Ok s)
include h
theorem Ok.dueS : Ok (dueS s) := ⟨h.dur, h.len, h.q⟩
theorem Ok.crash (keep : List Int) : Ok (crash s keep) := by
  unfold DK.crash
  split
  · exact h
  · refine ⟨fun f hf => ?_, fun f hf => ?_, fun p hp => by cases hp⟩
    · show _ ≤ (List.take _ _).length
      rw [List.length_take, crD_len h keep _ f hf]
      exact Nat.le_min.2 ⟨Nat.le_refl _, crU_le h keep _ f hf⟩
    · show (List.take _ _).length ≤ _
      rw [List.length_take, crD_len h keep _ f hf]
      have := h.len f hf; omega
theorem Ok.addS (f : Int) (x : Bts) : Ok (addS s f x) := by
  unfold DK.addS
  split
  · rename_i g
    have hf := num_lt g.1
    refine ⟨fun k hk => ?_, fun k hk => ?_, fun p hp => ?_⟩
    · show _ ≤ List.length (upd _ _ _ _)
      by_cases e : k = f.toNat
      · rw [e, upd_same, List.length_append]; have := h.dur _ hf; show s.dur f.toNat ≤ _; omega
      · rw [upd_other _ _ e]; exact h.dur k hk
    · show List.length (upd _ _ _ _) ≤ _
      by_cases e : k = f.toNat
      · rw [e, upd_same, List.length_append]; exact g.2.1
      · rw [upd_other _ _ e]; exact h.len k hk
    · show _ ∧ _ ∧ _ ≤ List.length (upd _ _ _ _)
      rcases List.mem_append.1 hp with hp | hp
      · obtain ⟨h1, h2, h3⟩ := h.q p hp
        refine ⟨h1, h2, ?_⟩
        by_cases e : p.file = f.toNat
        · rw [e, upd_same, List.length_append]; rw [e] at h3; omega
        · rw [upd_other _ _ e]; exact h3
      · obtain rfl := List.mem_singleton.1 hp
        refine ⟨hf, Nat.le_add_right _ _, ?_⟩
        rw [upd_same, List.length_append]; exact Nat.le_refl _
  · exact h
theorem Ok.append (f : Int) (x : Bts) : Ok (append s f x).2 := by
  unfold DK.append
  split
  · exact h
  split
  · exact (h.dueS.addS f x).crash _
  · exact h.dueS.addS f x
theorem Ok.intS : Ok (intS s) := by
  unfold DK.intS
  split
  · exact h.dueS.crash _
  · exact h.dueS
theorem Ok.flushS {f : Nat} : Ok (flushS s f) := by
  refine ⟨fun k hk => ?_, h.len, fun p hp => h.q p (List.mem_filter.1 hp).1⟩
  show upd _ _ _ _ ≤ _
  by_cases e : k = f
  · rw [e, upd_same]; exact Nat.le_refl _
  · rw [upd_other _ _ e]; exact h.dur k hk
theorem Ok.flush (f : Int) : Ok (flush s f).2 := by
  unfold DK.flush
  split
  · exact h
  split
  · exact h.intS
  split
  · split
    · exact ⟨h.dur, h.len, h.q⟩
    · exact Ok.flushS h.dueS
  · exact h.dueS
theorem Ok.cutS {f n : Nat} (hn : n ≤ (s.data f).length) : Ok (cutS s f n) := by
  refine ⟨fun k hk => ?_, fun k hk => ?_, fun p hp => ?_⟩
  · show upd _ _ _ _ ≤ List.length (upd _ _ _ _)
    by_cases e : k = f
    · subst e; rw [upd_same, upd_same, List.length_take]; have := h.dur _ hk; omega
    · rw [upd_other _ _ e, upd_other _ _ e]; exact h.dur k hk
  · show List.length (upd _ _ _ _) ≤ _
    by_cases e : k = f
    · subst e; rw [upd_same, List.length_take]; have := h.len _ hk; omega
    · rw [upd_other _ _ e]; exact h.len k hk
  · obtain ⟨q, hq, rfl⟩ := List.mem_map.1 hp
    obtain ⟨hq, hb⟩ := List.mem_filter.1 hq
    obtain ⟨h1, h2, h3⟩ := h.q q hq
    show _ ∧ _ ∧ _ ≤ List.length (upd _ _ _ _)
    by_cases e : q.file = f
    · rw [if_pos e]
      simp only [e, decide_true, Bool.true_and, Bool.not_eq_true', decide_eq_false_iff_not] at hb
      refine ⟨h1, ?_, ?_⟩
      · exact Nat.le_min.2 ⟨h2, Nat.le_of_lt (Nat.lt_of_not_le hb)⟩
      · show min _ _ ≤ List.length (upd _ _ _ q.file)
        rw [e, upd_same, List.length_take]; omega
    · rw [if_neg e]
      refine ⟨h1, h2, ?_⟩
      rw [upd_other _ _ e]; exact h3
theorem Ok.cut (f n : Int) : Ok (cut s f n).2 := by
  unfold DK.cut
  split
  · exact h
  split
  · exact h.intS
  split
  · rename_i g
    exact Ok.cutS h.dueS (show n.toNat ≤ (s.data f.toNat).length by omega)
  · exact h.dueS
theorem Ok.turnS {f g : Nat} (hg : g < 8) (hq : s.q.any (fun p => decide (p.file = g)) = false) : Ok (turnS s f g) := by
  refine ⟨fun k hk => ?_, fun k hk => ?_, fun p hp => ?_⟩
  · show upd (upd _ _ _) _ _ _ ≤ List.length (upd (upd _ _ _) _ _ _)
    by_cases e : k = g
    · rw [e, upd_same, upd_same]; exact Nat.zero_le _
    · rw [upd_other _ _ e, upd_other _ _ e]
      by_cases e2 : k = f
      · rw [e2, upd_same, upd_same]; exact h.dur g hg
      · rw [upd_other _ _ e2, upd_other _ _ e2]; exact h.dur k hk
  · show List.length (upd (upd _ _ _) _ _ _) ≤ _
    by_cases e : k = g
    · rw [e, upd_same]; exact Nat.zero_le _
    · rw [upd_other _ _ e]
      by_cases e2 : k = f
      · rw [e2, upd_same]; exact h.len g hg
      · rw [upd_other _ _ e2]; exact h.len k hk
  · obtain ⟨hp1, hp2⟩ := List.mem_filter.1 hp
    obtain ⟨h1, h2, h3⟩ := h.q p hp1
    have e2 : p.file ≠ f := by simpa using hp2
    have e : p.file ≠ g := fun e => by
      have := List.any_eq_false.1 hq p hp1
      simp [e] at this
    refine ⟨h1, h2, ?_⟩
    show _ ≤ List.length (upd (upd _ _ _) _ _ _)
    rw [upd_other _ _ e, upd_other _ _ e2]; exact h3
theorem Ok.turn (f g : Int) : Ok (turn s f g).2 := by
  unfold DK.turn
  split
  · exact h
  split
  · exact h.intS
  split
  · rename_i q
    split
    · exact h.dueS
    · rename_i hq
      exact Ok.turnS h.dueS (num_lt q.2.1) (Bool.eq_false_iff.2 hq)
  · exact h.dueS
theorem Ok.lose (n : Int) : Ok (lose s n) := ⟨h.dur, h.len, h.q⟩
theorem Ok.arm (n : Int) (keep : List Int) : Ok (arm s n keep) := ⟨h.dur, h.len, h.q⟩
theorem Ok.start : Ok (start s) := ⟨h.dur, h.len, h.q⟩
end
end DK
end Go.Proofs.Ytmnimcdbfolhaaa
