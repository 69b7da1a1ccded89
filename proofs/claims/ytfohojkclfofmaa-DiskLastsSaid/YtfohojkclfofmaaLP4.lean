/- Plain law of DiskLasts: what was flushed lasts. -/
import Derived.Test.YtfohojkclfofmaaLP3
import GoSem.Claim
set_option linter.unusedSimpArgs false
set_option linter.unusedVariables false
namespace Go.Proofs.Ytfohojkclfofmaa
namespace DK
structure PA where
  dO : Int
  f : Int
  g : Int
  n : Int
  s : Bts
  A : Option Addr
  c : Nat
  keep : List Int
def pk (d : Int) : Int := d % 11
structure Rs where
  x : Bts
  e : Int
  st : St
def doP (s : St) (a : PA) : Rs :=
  if pk a.dO = 0 ∨ pk a.dO = 1 then ⟨[], (append s a.f a.s).1, (append s a.f a.s).2⟩
  else if pk a.dO = 2 then ⟨[], (flush s a.f).1, (flush s a.f).2⟩
  else if pk a.dO = 3 then ⟨[], (cut s a.f a.n).1, (cut s a.f a.n).2⟩
  else if pk a.dO = 4 then ⟨[], (turn s a.f a.g).1, (turn s a.f a.g).2⟩
  else if pk a.dO = 5 then ⟨[], 0, crash s a.keep⟩
  else if pk a.dO = 6 then ⟨[], 0, lose s a.n⟩
  else if pk a.dO = 7 then ⟨[], 0, start s⟩
  else if pk a.dO = 8 then ⟨(read s a.f).1, (read s a.f).2, s⟩
  else if pk a.dO = 10 then ⟨[], 0, arm s a.n a.keep⟩
  else ⟨[], 0, s⟩
theorem pk_bd (d : Int) : 0 ≤ pk d ∧ pk d < 11 := by unfold pk; omega
/-- What is safe: it is the front of its file, durable, and ahead of all that waits. -/
structure LI (s : St) (sf : Nat → Bts) : Prop where
  pre : ∀ f, f < 8 → ∃ r, s.data f = sf f ++ r
  dur : ∀ f, f < 8 → (sf f).length ≤ s.dur f
  q : ∀ p ∈ s.q, (sf p.file).length ≤ p.fr
/-- After a crash nothing waits, and all is durable. -/
structure Cr (s : St) : Prop where
  q : s.q = []
  dur : ∀ f, f < 8 → s.dur f = (s.data f).length
def DI (s : St) : Prop := s.down = true → Cr s
theorem LI.zero : LI St.zero (fun _ => []) := ⟨fun _ _ => ⟨[], rfl⟩, fun _ _ => Nat.le_refl _, fun _ h => by cases h⟩
theorem DI.zero : DI St.zero := fun h => by cases h
section
variable {s : St} {sf : Nat → Bts}
theorem pre_of {x : Bts} {y : Bts} (h : x.take y.length = y) : ∃ r, x = y ++ r := ⟨x.drop y.length, by conv => lhs; rw [← List.take_append_drop y.length x, h]⟩
theorem take_of {x y r : Bts} (h : x = y ++ r) : x.take y.length = y := by rw [h, List.take_left]
theorem LI.pl (h : LI s sf) (f : Nat) (hf : f < 8) : (sf f).length ≤ (s.data f).length := by obtain ⟨r, e⟩ := h.pre f hf; rw [e, List.length_append]; omega
theorem crash_cr (h : Ok s) (hd : s.down = false) (keep : List Int) : Cr (crash s keep) := by
  refine ⟨by unfold crash; rw [if_neg (by rw [hd]; simp)], fun f hf => ?_⟩
  unfold crash; rw [if_neg (by rw [hd]; simp)]
  show crU _ _ _ _ f = (List.take _ _).length
  rw [List.length_take, crD_len h keep _ f hf, Nat.min_eq_left (crU_le h keep _ f hf)]
theorem crash_di (h : Ok s) (hi : DI s) (keep : List Int) : DI (crash s keep) := by
  intro _
  cases hd : s.down with
  | true => rw [crash_again keep hd]; exact hi hd
  | false => exact crash_cr h hd keep
theorem LI.crash (hi : LI s sf) (h : Ok s) (keep : List Int) : LI (crash s keep) sf := by
  unfold DK.crash
  split
  · exact hi
  have hk : ∀ f, f < 8 → (sf f).length ≤ crU keep s.q s.dur s.q.length f := by
    intro f hf
    have : ∀ k, (sf f).length ≤ crU keep s.q s.dur k f := by
      intro k
      induction k with
      | zero => exact hi.dur f hf
      | succ k ih =>
        cases hq : s.q[k]? with
        | none => simp only [crU, hq]; exact ih
        | some p =>
          rw [crU_at hq]
          split
          · by_cases e : f = p.file
            · subst e; rw [upd_same]; have := hi.q p (List.mem_of_getElem? hq); omega
            · rw [upd_other _ _ e]; exact ih
          · exact ih
    exact this _
  refine ⟨fun f hf => pre_of ?_, hk, fun p hp => by cases hp⟩
  show List.take _ (List.take _ _) = _
  rw [List.take_take, Nat.min_eq_left (hk f hf), crD_keep h keep hf (fun i p hp he => by subst he; have := hi.q p (List.mem_of_getElem? hp); omega)]
  obtain ⟨r, e⟩ := hi.pre f hf
  exact take_of e
theorem LI.dueS (hi : LI s sf) : LI (dueS s) sf := ⟨hi.pre, hi.dur, hi.q⟩
theorem LI.addS (hi : LI s sf) (f : Int) (x : Bts) : LI (addS s f x) sf := by
  unfold DK.addS
  split
  · rename_i g
    have hf := num_lt g.1
    refine ⟨fun k hk => ?_, hi.dur, fun p hp => ?_⟩
    · obtain ⟨r, e⟩ := hi.pre k hk
      by_cases e2 : k = f.toNat
      · subst e2; exact ⟨r ++ x, by show upd _ _ _ _ = _; rw [upd_same, e, List.append_assoc]⟩
      · exact ⟨r, by show upd _ _ _ _ = _; rw [upd_other _ _ e2]; exact e⟩
    · rcases List.mem_append.1 hp with hp | hp
      · exact hi.q p hp
      · obtain rfl := List.mem_singleton.1 hp
        exact hi.pl _ hf
  · exact hi
theorem LI.append (hi : LI s sf) (h : Ok s) (f : Int) (x : Bts) : LI (append s f x).2 sf := by
  unfold DK.append
  split
  · exact hi
  split
  · exact (hi.dueS.addS f x).crash (h.dueS.addS f x) _
  · exact hi.dueS.addS f x
theorem LI.intS (hi : LI s sf) (h : Ok s) : LI (intS s) sf := by
  unfold DK.intS
  split
  · exact hi.dueS.crash h.dueS _
  · exact hi.dueS
theorem LI.flush_no (hi : LI s sf) (h : Ok s) (f : Int) (he : (flush s f).1 ≠ 0) : LI (flush s f).2 sf := by
  unfold DK.flush at he ⊢
  split at he
  · rename_i g; rw [if_pos g]; exact hi
  rename_i g1; rw [if_neg g1]
  split at he
  · rename_i g; rw [if_pos g]; exact hi.intS h
  rename_i g2; rw [if_neg g2]
  split at he
  · rename_i g3; rw [if_pos g3]
    split at he
    · rename_i g4; rw [if_pos g4]; exact ⟨hi.pre, hi.dur, hi.q⟩
    · exact absurd rfl he
  · rename_i g3; rw [if_neg g3]; exact hi.dueS
theorem flush_yes {f : Int} (he : (flush s f).1 = 0) : s.down = false ∧ num f = true ∧ (flush s f).2 = flushS (dueS s) f.toNat := by
  unfold DK.flush at he ⊢
  split at he
  · cases he
  rename_i g1; rw [if_neg g1]
  split at he
  · cases he
  rename_i g2; rw [if_neg g2]
  split at he
  · rename_i g3; rw [if_pos g3]
    split at he
    · cases he
    · rename_i g4; rw [if_neg g4]; exact ⟨by simpa using g1, g3, rfl⟩
  · cases he
theorem LI.flush_ok (hi : LI s sf) {f : Int} (he : (flush s f).1 = 0) : LI (flush s f).2 (upd sf f.toNat ((flush s f).2.data f.toNat)) := by
  obtain ⟨_, hn, e⟩ := flush_yes he
  rw [e]
  refine ⟨fun k hk => ?_, fun k hk => ?_, fun p hp => ?_⟩
  · by_cases e2 : k = f.toNat
    · subst e2; exact ⟨[], by rw [upd_same, List.append_nil]⟩
    · rw [upd_other _ _ e2]; exact hi.pre k hk
  · by_cases e2 : k = f.toNat
    · subst e2; rw [upd_same]; show _ ≤ upd _ _ _ _; rw [upd_same]; exact Nat.le_refl _
    · rw [upd_other _ _ e2]; show _ ≤ upd _ _ _ _; rw [upd_other _ _ e2]; exact hi.dur k hk
  · obtain ⟨hp1, hp2⟩ := List.mem_filter.1 hp
    have e2 : p.file ≠ f.toNat := by simpa using hp2
    rw [upd_other _ _ e2]; exact hi.q p hp1
theorem cut_yes {f n : Int} (he : (cut s f n).1 = 0) : s.down = false ∧ num f = true ∧ 0 ≤ n ∧ n ≤ (s.data f.toNat).length ∧ (cut s f n).2 = cutS (dueS s) f.toNat n.toNat := by
  unfold DK.cut at he ⊢
  split at he
  · cases he
  rename_i g1; rw [if_neg g1]
  split at he
  · cases he
  rename_i g2; rw [if_neg g2]
  split at he
  · rename_i g3; rw [if_pos g3]; exact ⟨by simpa using g1, g3.1, g3.2.1, g3.2.2, rfl⟩
  · cases he
theorem LI.cut_no (hi : LI s sf) (h : Ok s) (f n : Int) (he : (cut s f n).1 ≠ 0) : LI (cut s f n).2 sf := by
  unfold DK.cut at he ⊢
  split at he
  · rename_i g; rw [if_pos g]; exact hi
  rename_i g1; rw [if_neg g1]
  split at he
  · rename_i g; rw [if_pos g]; exact hi.intS h
  rename_i g2; rw [if_neg g2]
  split at he
  · exact absurd rfl he
  · rename_i g3; rw [if_neg g3]; exact hi.dueS
/-- A Cut: what was safe, as truncated. -/
theorem LI.cut_ok (hi : LI s sf) {f n : Int} (he : (cut s f n).1 = 0) : LI (cut s f n).2 (upd sf f.toNat ((sf f.toNat).take n.toNat)) := by
  obtain ⟨_, hn, h0, hle, e⟩ := cut_yes he
  rw [e]
  have hf := num_lt hn
  refine ⟨fun k hk => ?_, fun k hk => ?_, fun p hp => ?_⟩
  · obtain ⟨r, e3⟩ := hi.pre k hk
    by_cases e2 : k = f.toNat
    · subst e2
      rw [upd_same]
      show ∃ r, upd s.data f.toNat ((s.data f.toNat).take n.toNat) f.toNat = _
      rw [upd_same, e3, List.take_append]
      exact ⟨_, rfl⟩
    · rw [upd_other _ _ e2]; exact ⟨r, by show upd s.data f.toNat _ k = _; rw [upd_other _ _ e2]; exact e3⟩
  · by_cases e2 : k = f.toNat
    · subst e2; rw [upd_same]; show _ ≤ upd s.dur f.toNat (min (s.dur f.toNat) n.toNat) f.toNat; rw [upd_same, List.length_take]
      have := hi.dur _ hk; omega
    · rw [upd_other _ _ e2]; show _ ≤ upd s.dur f.toNat _ k; rw [upd_other _ _ e2]; exact hi.dur k hk
  · obtain ⟨q, hq, rfl⟩ := List.mem_map.1 hp
    obtain ⟨hq, hb⟩ := List.mem_filter.1 hq
    have := hi.q q hq
    by_cases e2 : q.file = f.toNat
    · rw [if_pos e2]
      show List.length (upd sf f.toNat ((sf f.toNat).take n.toNat) q.file) ≤ q.fr
      rw [e2, upd_same, List.length_take]; rw [e2] at this; omega
    · rw [if_neg e2, upd_other _ _ e2]; exact this
theorem turn_yes {f g : Int} (he : (turn s f g).1 = 0) : s.down = false ∧ num f = true ∧ num g = true ∧ f ≠ g ∧ s.q.any (fun p => decide (p.file = g.toNat)) = false ∧ (turn s f g).2 = turnS (dueS s) f.toNat g.toNat := by
  unfold DK.turn at he ⊢
  split at he
  · cases he
  rename_i g1; rw [if_neg g1]
  split at he
  · cases he
  rename_i g2; rw [if_neg g2]
  split at he
  · rename_i g3; rw [if_pos g3]
    split at he
    · cases he
    · rename_i g4; rw [if_neg g4]; exact ⟨by simpa using g1, g3.1, g3.2.1, g3.2.2, Bool.eq_false_iff.2 g4, rfl⟩
  · cases he
theorem LI.turn_no (hi : LI s sf) (h : Ok s) (f g : Int) (he : (turn s f g).1 ≠ 0) : LI (turn s f g).2 sf := by
  unfold DK.turn at he ⊢
  split at he
  · rename_i g; rw [if_pos g]; exact hi
  rename_i g1; rw [if_neg g1]
  split at he
  · rename_i g; rw [if_pos g]; exact hi.intS h
  rename_i g2; rw [if_neg g2]
  split at he
  · rename_i g3; rw [if_pos g3]
    split at he
    · rename_i g4; rw [if_pos g4]; exact hi.dueS
    · exact absurd rfl he
  · rename_i g3; rw [if_neg g3]; exact hi.dueS
theorem LI.turn_ok (hi : LI s sf) {f g : Int} (he : (turn s f g).1 = 0) : LI (turn s f g).2 (upd (upd sf f.toNat (sf g.toNat)) g.toNat []) := by
  obtain ⟨_, hn, hn2, hne, ha, e⟩ := turn_yes he
  rw [e]
  have hf := num_lt hn
  have hg := num_lt hn2
  refine ⟨fun k hk => ?_, fun k hk => ?_, fun p hp => ?_⟩
  · show ∃ r, upd (upd s.data f.toNat (s.data g.toNat)) g.toNat [] k = _
    by_cases e2 : k = g.toNat
    · subst e2; exact ⟨[], by rw [upd_same, upd_same]; rfl⟩
    · rw [upd_other _ _ e2, upd_other _ _ e2]
      by_cases e3 : k = f.toNat
      · subst e3; rw [upd_same, upd_same]; exact hi.pre _ hg
      · rw [upd_other _ _ e3, upd_other _ _ e3]; exact hi.pre k hk
  · show _ ≤ upd (upd s.dur f.toNat (s.dur g.toNat)) g.toNat 0 k
    by_cases e2 : k = g.toNat
    · subst e2; rw [upd_same, upd_same]; exact Nat.le_refl _
    · rw [upd_other _ _ e2, upd_other _ _ e2]
      by_cases e3 : k = f.toNat
      · subst e3; rw [upd_same, upd_same]; exact hi.dur _ hg
      · rw [upd_other _ _ e3, upd_other _ _ e3]; exact hi.dur k hk
  · obtain ⟨hp1, hp2⟩ := List.mem_filter.1 hp
    have e2 : p.file ≠ f.toNat := by simpa using hp2
    have e3 : p.file ≠ g.toNat := fun e => by
      have := List.any_eq_false.1 ha p hp1
      simp [e] at this
    rw [upd_other _ _ e3, upd_other _ _ e2]; exact hi.q p hp1
/-- .. nothing but a crash puts the machine down. -/
theorem intS_di (h : Ok s) (hd : s.down = false) : DI (intS s) := by
  intro hk
  unfold DK.intS at hk ⊢
  split at hk
  · rename_i g; rw [if_pos g]; exact crash_cr h.dueS hd _
  · have : s.down = true := hk
    rw [hd] at this; cases this
theorem append_di (h : Ok s) (hi : DI s) (f : Int) (x : Bts) : DI (append s f x).2 := by
  unfold DK.append
  split
  · exact hi
  rename_i g1
  have hd : s.down = false := by simpa using g1
  have had : (addS (dueS s) f x).down = false := by unfold DK.addS; split <;> exact hd
  split
  · intro _; exact crash_cr (h.dueS.addS f x) had _
  · intro hk; have : (addS (dueS s) f x).down = true := hk; rw [had] at this; cases this
theorem flush_di (h : Ok s) (hi : DI s) (f : Int) : DI (flush s f).2 := by
  unfold DK.flush
  split
  · exact hi
  rename_i g1
  have hd : s.down = false := by simpa using g1
  have hno : ∀ {t : St}, t.down = s.down → DI t := fun e hk => by rw [e, hd] at hk; cases hk
  split
  · exact intS_di h hd
  split
  · split <;> exact hno rfl
  · exact hno rfl
theorem cut_di (h : Ok s) (hi : DI s) (f n : Int) : DI (cut s f n).2 := by
  unfold DK.cut
  split
  · exact hi
  rename_i g1
  have hd : s.down = false := by simpa using g1
  have hno : ∀ {t : St}, t.down = s.down → DI t := fun e hk => by rw [e, hd] at hk; cases hk
  split
  · exact intS_di h hd
  split <;> exact hno rfl
theorem turn_di (h : Ok s) (hi : DI s) (f g : Int) : DI (turn s f g).2 := by
  unfold DK.turn
  split
  · exact hi
  rename_i g1
  have hd : s.down = false := by simpa using g1
  have hno : ∀ {t : St}, t.down = s.down → DI t := fun e hk => by rw [e, hd] at hk; cases hk
  split
  · exact intS_di h hd
  split
  · split <;> exact hno rfl
  · exact hno rfl
theorem doP_di (h : Ok s) (hi : DI s) (a : PA) : DI (doP s a).st := by
  unfold doP
  repeat' split
  · exact append_di h hi _ _
  · exact flush_di h hi _
  · exact cut_di h hi _ _
  · exact turn_di h hi _ _
  · exact crash_di h hi _
  · exact fun hk => ⟨(hi hk).q, (hi hk).dur⟩
  · exact fun hk => by cases hk
  · exact hi
  · exact fun hk => ⟨(hi hk).q, (hi hk).dur⟩
  · exact hi
theorem doP_ok (h : Ok s) (a : PA) : Ok (doP s a).st := by
  unfold doP
  repeat' split
  · exact h.append _ _
  · exact h.flush _
  · exact h.cut _ _
  · exact h.turn _ _
  · exact h.crash _
  · exact h.lose _
  · exact h.start
  · exact h
  · exact h.arm _ _
  · exact h
/-- What the law keeps as safe behind a call. -/
def keepP (s : St) (a : PA) (sf : Nat → Bts) : Nat → Bts :=
  if pk a.dO = 2 ∧ (doP s a).e = 0 then upd sf a.f.toNat ((doP s a).st.data a.f.toNat)
  else if pk a.dO = 3 ∧ (doP s a).e = 0 then upd sf a.f.toNat ((sf a.f.toNat).take a.n.toNat)
  else if pk a.dO = 4 ∧ (doP s a).e = 0 then upd (upd sf a.f.toNat (sf a.g.toNat)) a.g.toNat []
  else sf
theorem doP_li (h : Ok s) (hi : LI s sf) (a : PA) : LI (doP s a).st (keepP s a sf) := by
  obtain ⟨r, hr⟩ : ∃ r, r = doP s a := ⟨_, rfl⟩
  have hr2 := hr
  unfold keepP
  rw [← hr]
  unfold doP at hr
  by_cases c0 : pk a.dO = 0 ∨ pk a.dO = 1
  · rw [if_pos c0] at hr
    rw [if_neg (by omega), if_neg (by omega), if_neg (by omega), hr]; exact hi.append h _ _
  rw [if_neg c0] at hr
  by_cases c2 : pk a.dO = 2
  · rw [if_pos c2] at hr
    by_cases e : r.e = 0
    · rw [if_pos ⟨c2, e⟩]; subst hr; exact hi.flush_ok e
    · rw [if_neg (fun q => e q.2), if_neg (fun q => e q.2), if_neg (fun q => e q.2)]; subst hr; exact hi.flush_no h _ e
  rw [if_neg c2] at hr
  rw [if_neg (fun q => c2 q.1)]
  by_cases c3 : pk a.dO = 3
  · rw [if_pos c3] at hr
    by_cases e : r.e = 0
    · rw [if_pos ⟨c3, e⟩]; subst hr; exact hi.cut_ok e
    · rw [if_neg (fun q => e q.2), if_neg (fun q => e q.2)]; subst hr; exact hi.cut_no h _ _ e
  rw [if_neg c3] at hr
  rw [if_neg (fun q => c3 q.1)]
  by_cases c4 : pk a.dO = 4
  · rw [if_pos c4] at hr
    by_cases e : r.e = 0
    · rw [if_pos ⟨c4, e⟩]; subst hr; exact hi.turn_ok e
    · rw [if_neg (fun q => e q.2)]; subst hr; exact hi.turn_no h _ _ e
  rw [if_neg c4] at hr
  rw [if_neg (fun q => c4 q.1)]
  subst hr
  repeat' split
  · exact hi.crash h _
  · exact ⟨hi.pre, hi.dur, hi.q⟩
  · exact ⟨hi.pre, hi.dur, hi.q⟩
  · exact hi
  · exact ⟨hi.pre, hi.dur, hi.q⟩
  · exact hi
/-- All of what stands after a crash is safe. -/
theorem LI.all (h : Cr s) : LI s s.data := ⟨fun _ _ => ⟨[], (List.append_nil _).symm⟩, fun f hf => by rw [h.dur f hf]; exact Nat.le_refl _, fun p hp => by rw [h.q] at hp; cases hp⟩
theorem LI.congr {sf2 : Nat → Bts} (h : LI s sf) (e : ∀ f, f < 8 → sf2 f = sf f) (hk : Ok s) : LI s sf2 :=
  ⟨fun f hf => by rw [e f hf]; exact h.pre f hf, fun f hf => by rw [e f hf]; exact h.dur f hf, fun p hp => by rw [e _ (hk.q p hp).1]; exact h.q p hp⟩
theorem Cr.start (h : Cr s) : Cr (start s) := ⟨h.q, h.dur⟩
/-- A crash of such a state leaves its bytes. -/
theorem Cr.crash (h : Cr s) (hk : Ok s) : ∀ f, f < 8 → (DK.crash s []).data f = s.data f := by
  intro f hf
  cases hd : s.down with
  | true => rw [crash_again _ hd]
  | false =>
    rw [crash_quiet hd [] (fun p hp => by rw [h.q] at hp; cases hp), h.dur f hf, List.take_length]
/-- Each byte that a crash leaves was there, or is 0. -/
theorem zer_at {l : Bts} {x n i : Nat} {b : UInt8} (h1 : x ≤ n) (h2 : n ≤ l.length) (h : (zer l x n)[i]? = some b) : b = 0 ∨ l[i]? = some b := by
  unfold zer at h
  have l1 : (l.take x).length = x := by rw [List.length_take]; omega
  have l2 : (l.take x ++ List.replicate (n - x) (0 : UInt8)).length = n := by rw [List.length_append, l1, List.length_replicate]; omega
  rcases Nat.lt_or_ge i n with g | g
  · rw [List.getElem?_append_left (by rw [l2]; exact g)] at h
    rcases Nat.lt_or_ge i x with g2 | g2
    · rw [List.getElem?_append_left (by rw [l1]; exact g2), List.getElem?_take_of_lt g2] at h; exact .inr h
    · rw [List.getElem?_append_right (by rw [l1]; exact g2), List.getElem?_replicate] at h
      split at h
      · injection h with h; exact .inl h.symm
      · cases h
  · rw [List.getElem?_append_right (by rw [l2]; exact g), l2, List.getElem?_drop, show n + (i - n) = i by omega] at h; exact .inr h
theorem crD_torn (h : Ok s) (keep : List Int) {f : Nat} (hf : f < 8) (i : Nat) (b : UInt8) (k : Nat) : (crD keep s.q s.data k f)[i]? = some b → b = 0 ∨ (s.data f)[i]? = some b := by
  induction k with
  | zero => exact .inr
  | succ k ih =>
    cases hq : s.q[k]? with
    | none => simp only [crD, hq]; exact ih
    | some p =>
      have hp := h.q p (List.mem_of_getElem? hq)
      rw [crD_at hq]
      by_cases e : f = p.file
      · subst e
        rw [upd_same]
        intro hb
        rcases zer_at (kept_le hp.2.1) (by rw [crD_len h keep k _ hp.1]; exact hp.2.2) hb with g | g
        · exact .inl g
        · exact ih g
      · rw [upd_other _ _ e]; exact ih
def Torn (x y : Bts) : Prop := x.length ≤ y.length ∧ ∀ (i : Nat) (b : UInt8), x[i]? = some b → b = 0 ∨ y[i]? = some b
theorem crash_torn (h : Ok s) (keep : List Int) {f : Nat} (hf : f < 8) : Torn ((crash s keep).data f) (s.data f) := by
  refine ⟨crash_le h keep hf, fun i b hb => ?_⟩
  unfold DK.crash at hb
  split at hb
  · exact .inr hb
  · have hb2 : (List.take _ _)[i]? = some b := hb
    rw [List.getElem?_take] at hb2
    split at hb2
    · exact crD_torn h keep hf i b _ hb2
    · cases hb2
end
end DK
end Go.Proofs.Ytfohojkclfofmaa
