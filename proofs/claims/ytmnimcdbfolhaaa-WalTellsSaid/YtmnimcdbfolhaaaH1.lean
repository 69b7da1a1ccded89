/- Joined of: H1. -/
import Derived.Test.YtmnimcdbfolhaaaG07
/- A disk in a law: its state, what is kept beside it, the calls on it. -/
set_option linter.unusedSimpArgs false
set_option linter.unusedVariables false
namespace Go.Proofs.Ytmnimcdbfolhaaa
open Go.RowKit DK
structure Lim (s : St) (n : Nat) : Prop where
  q : s.q.length ≤ n
  armed : s.armed ≤ 9223372036854775807
  lost : s.lost ≤ 9223372036854775807
  keep : s.keep.length ≤ 1000000000000
structure Has (w0 : World) (b : Nat) (K : List (Nat × Obj)) (n : Nat) (w : World) (s : St) : Prop where
  ok : Ok s
  lim : Lim s n
  at_ : ∃ m, DiskAt w b m s ∧ ∀ x ∈ K, ¬ foot b m x.1
  kept : ∀ x ∈ K, w.heap[x.1]? = some x.2
  below : Below w0.heap.size w0 w
  base : w0.heap.size ≤ b
section
variable {w0 w w' : World} {b n : Nat} {K : List (Nat × Obj)} {s s' : St}
theorem Lim.zero : Lim St.zero 0 := ⟨Nat.le_refl _, by decide, by decide, by decide⟩
theorem Lim.more {m : Nat} (h : Lim s n) (hm : n ≤ m) : Lim s m := ⟨Nat.le_trans h.q hm, h.armed, h.lost, h.keep⟩
theorem Lim.dueS (h : Lim s n) : Lim (dueS s) n := ⟨h.q, by show s.armed - 1 ≤ _; have := h.armed; omega, h.lost, h.keep⟩
theorem Lim.crash (h : Lim s n) (keep : List Int) : Lim (crash s keep) n := by
  unfold DK.crash; split
  · exact h
  · exact ⟨Nat.zero_le _, Nat.zero_le _, h.lost, Nat.zero_le _⟩
theorem Lim.addS (h : Lim s n) (f : Int) (x : Bts) : Lim (addS s f x) (n + 1) := by
  unfold DK.addS; split
  · exact ⟨by show (s.q ++ _).length ≤ _; rw [List.length_append]; have := h.q; simp; omega, h.armed, h.lost, h.keep⟩
  · exact h.more (Nat.le_succ _)
theorem Lim.intS (h : Lim s n) : Lim (intS s) n := by
  unfold DK.intS; split
  · exact h.dueS.crash _
  · exact h.dueS
theorem Lim.append (h : Lim s n) (f : Int) (x : Bts) : Lim (append s f x).2 (n + 1) := by
  unfold DK.append; split
  · exact h.more (Nat.le_succ _)
  split
  · exact (h.dueS.addS f x).crash _
  · exact h.dueS.addS f x
theorem Lim.flush (h : Lim s n) (f : Int) : Lim (flush s f).2 n := by
  unfold DK.flush; split
  · exact h
  split
  · exact h.intS
  split
  · split
    · exact ⟨h.q, h.dueS.armed, by show s.lost - 1 ≤ _; have := h.lost; omega, h.keep⟩
    · exact ⟨Nat.le_trans (List.length_filter_le _ _) h.q, h.dueS.armed, h.lost, h.keep⟩
  · exact h.dueS
theorem Lim.cut (h : Lim s n) (f k : Int) : Lim (cut s f k).2 n := by
  unfold DK.cut; split
  · exact h
  split
  · exact h.intS
  split
  · exact ⟨by show (List.map _ _).length ≤ _; rw [List.length_map]; exact Nat.le_trans (List.length_filter_le _ _) h.q, h.dueS.armed, h.lost, h.keep⟩
  · exact h.dueS
theorem Lim.turn (h : Lim s n) (f g : Int) : Lim (turn s f g).2 n := by
  unfold DK.turn; split
  · exact h
  split
  · exact h.intS
  split
  · split
    · exact h.dueS
    · exact ⟨Nat.le_trans (List.length_filter_le _ _) h.q, h.dueS.armed, h.lost, h.keep⟩
  · exact h.dueS
theorem Has.more {m : Nat} (h : Has w0 b K n w s) (hm : n ≤ m) : Has w0 b K m w s := ⟨h.ok, h.lim.more hm, h.at_, h.kept, h.below, h.base⟩
/-- One call. -/
theorem Has.go {m m' : Dm} {n' : Nat} (h : Has w0 b K n w s) (hD : DiskAt w b m s) (hK : ∀ x ∈ K, ¬ foot b m x.1) (hD' : DiskAt w' b m' s') (hS : Stp b m w m' w') (hok : Ok s') (hl : Lim s' n') : Has w0 b K n' w' s' := by
  refine ⟨hok, hl, ⟨m', hD', fun x hx q => ?_⟩, fun x hx => ?_, h.below.trans (hS.below h.below.size (fun k hk => Nat.le_trans h.base (hD.foot_lt hk).2)), h.base⟩
  · have hlt := (Array.getElem?_eq_some_iff.1 (h.kept x hx)).1
    rcases hS.foot _ q with q | q
    · exact hK x hx q
    · omega
  · have hlt := (Array.getElem?_eq_some_iff.1 (h.kept x hx)).1
    rw [hS.block _ hlt (hK x hx)]; exact h.kept x hx
/-- Where the disk's blocks do not turn: a new block, a draw, a call that leaves all that was. -/
theorem Has.below_ (h : Has w0 b K n w s) (hb : Below w.heap.size w w') : Has w0 b K n w' s := by
  obtain ⟨m, hD, hK⟩ := h.at_
  exact h.go hD hK (hD.below hb) (Stp.of_below hb) h.ok h.lim
theorem Has.lt (h : Has w0 b K n w s) : b < w.heap.size := by obtain ⟨m, hD, _⟩ := h.at_; exact hD.lt
/-- One object more is kept: it was made just now. -/
theorem Has.keepNew (h : Has w0 b K n w s) (o : Obj) : Has w0 b ((w.heap.size, o) :: K) n (w.alloc o) s := by
  obtain ⟨m, hD, hK⟩ := h.at_
  have h2 := h.below_ (below_new w o)
  refine ⟨h.ok, h.lim, ⟨m, hD.below (below_new w o), fun x hx => ?_⟩, fun x hx => ?_, h2.below, h.base⟩
  · rcases List.mem_cons.1 hx with rfl | hx
    · intro q; have := (hD.foot_lt q).1; exact Nat.lt_irrefl _ this
    · exact hK x hx
  · rcases List.mem_cons.1 hx with rfl | hx
    · exact heap_alloc_new w o
    · exact h2.kept x hx
theorem Has.new (w : World) (hb : Below w0.heap.size w0 w) : Calls Try.prog 15 #[] w fun e w' => ∃ b, e = .returned (dp b) ∧ Has w0 b [] 0 w' St.zero ∧ b = w.heap.size ∧ Below w.heap.size w w' :=
  (new_any w).mono fun e w' ⟨he, hD, hB⟩ => ⟨w.heap.size, he, ⟨Ok.zero, Lim.zero, ⟨_, hD, (fun _ h => by cases h)⟩, (fun _ h => by cases h), hb.trans (hB.mono hb.size), hb.size⟩, rfl, hB⟩
theorem Has.append (h : Has w0 b K n w s) (f : Int) (x : Bts) (hx : x.length ≤ 9223372036854775807) (hn : n ≤ 999999) {v : Int} (hv : (DK.append s f x).1 = v) (hs : (DK.append s f x).2 = s') :
    Calls Try.prog 16 #[dp b, .int .i64 f, .string (bs x)] w fun e w' => e = .returned (.int .i64 v) ∧ Has w0 b K (n + 1) w' s' := by
  obtain ⟨m, hD, hK⟩ := h.at_
  refine (append_any b m s f x w hD h.ok (Nat.le_trans h.lim.q hn) hx h.lim.armed (by have := h.lim.keep; omega)).mono fun e w' ⟨he, m', hD', hS⟩ => ⟨by rw [he, hv], ?_⟩
  rw [← hs]
  exact h.go hD hK hD' hS (h.ok.append f x) (h.lim.append f x)
theorem Has.flush (h : Has w0 b K n w s) (f : Int) (hn : n ≤ 999999) {v : Int} (hv : (DK.flush s f).1 = v) (hs : (DK.flush s f).2 = s') :
    Calls Try.prog 43 #[dp b, .int .i64 f] w fun e w' => e = .returned (.int .i64 v) ∧ Has w0 b K n w' s' := by
  obtain ⟨m, hD, hK⟩ := h.at_
  refine (flush_any b m s f w hD h.ok (by have := h.lim.q; omega) h.lim.armed h.lim.lost (by have := h.lim.keep; omega)).mono fun e w' ⟨he, m', hD', hS⟩ => ⟨by rw [he, hv], ?_⟩
  rw [← hs]
  exact h.go hD hK hD' hS (h.ok.flush f) (h.lim.flush f)
theorem Has.cut (h : Has w0 b K n w s) (f k : Int) (hn : n ≤ 999999) {v : Int} (hv : (DK.cut s f k).1 = v) (hs : (DK.cut s f k).2 = s') :
    Calls Try.prog 42 #[dp b, .int .i64 f, .int .i64 k] w fun e w' => e = .returned (.int .i64 v) ∧ Has w0 b K n w' s' := by
  obtain ⟨m, hD, hK⟩ := h.at_
  refine (cut_any b m s f k w hD h.ok (by have := h.lim.q; omega) h.lim.armed (by have := h.lim.keep; omega)).mono fun e w' ⟨he, m', hD', hS⟩ => ⟨by rw [he, hv], ?_⟩
  rw [← hs]
  exact h.go hD hK hD' hS (h.ok.cut f k) (h.lim.cut f k)
theorem Has.turn (h : Has w0 b K n w s) (f g : Int) (hn : n ≤ 999999) {v : Int} (hv : (DK.turn s f g).1 = v) (hs : (DK.turn s f g).2 = s') :
    Calls Try.prog 47 #[dp b, .int .i64 f, .int .i64 g] w fun e w' => e = .returned (.int .i64 v) ∧ Has w0 b K n w' s' := by
  obtain ⟨m, hD, hK⟩ := h.at_
  refine (turn_any b m s f g w hD h.ok (by have := h.lim.q; omega) h.lim.armed (by have := h.lim.keep; omega)).mono fun e w' ⟨he, m', hD', hS⟩ => ⟨by rw [he, hv], ?_⟩
  rw [← hs]
  exact h.go hD hK hD' hS (h.ok.turn f g) (h.lim.turn f g)
/-- What is kept of a crash lies in old memory, or is nil, or was made just now. -/
def Apart (w0 : World) (b : Nat) (w : World) (A : Option Addr) (keep : List Int) : Prop := IntsAt w w.heap.size A keep ∧ (keep ≠ [] → ∀ a, A = some a → a.block < b)
theorem Apart.nil (w0 w : World) (b : Nat) (A : Option Addr) : Apart w0 b w A [] := ⟨fun h => absurd h (by simp), fun h => absurd rfl h⟩
theorem Apart.old {A : Option Addr} {keep : List Int} (h : Has w0 b K n w s) (hA : IntsAt w0 w0.heap.size A keep) : Apart w0 b w A keep :=
  ⟨(hA.below h.below).more h.below.size, fun hk a e => by
    obtain ⟨b', o, e', hlt, _⟩ := hA (List.length_pos_iff.2 hk)
    rw [e] at e'; injection e' with e'; subst e'
    have := h.base
    show b' < b; omega⟩
theorem Has.crash (h : Has w0 b K n w s) {A : Option Addr} {c : Nat} {keep : List Int} (hA : Apart w0 b w A keep) (hkl : keep.length ≤ 9223372036854775807) (hn : n ≤ 999999) (hs : DK.crash s keep = s') :
    Calls Try.prog 23 #[dp b, .slice A keep.length c] w fun e w' => e = .returned (.tuple #[]) ∧ Has w0 b K n w' s' := by
  obtain ⟨m, hD, hK⟩ := h.at_
  refine (crash_any b m s A c keep w hD h.ok (by have := h.lim.q; omega) hA.1 (fun hk a e => ⟨by have := hA.2 hk a e; omega, fun f hf q => by have := hA.2 hk a e; have := hD.dlt hf q; omega⟩) hkl).mono fun e w' ⟨he, m', hD', hS⟩ => ⟨he, ?_⟩
  rw [← hs]
  exact h.go hD hK hD' hS (h.ok.crash keep) (h.lim.crash keep)
/-- .. where the list was made just now. -/
theorem Has.crashNew (h : Has w0 b K n w s) {keep : List Int} (hk0 : keep ≠ []) (c t : Nat) (hkl : keep.length ≤ 9223372036854775807) (hn : n ≤ 999999) (hs : DK.crash s keep = s') :
    Calls Try.prog 23 #[dp b, .slice (some ⟨w.heap.size, 0, none⟩) keep.length c] (w.alloc (.cells (keep.map (Value.int .i64)).toArray t)) fun e w' => e = .returned (.tuple #[]) ∧ Has w0 b K n w' s' := by
  have h2 := h.below_ (below_new w (.cells (keep.map (Value.int .i64)).toArray t))
  obtain ⟨m, hD0, hK0⟩ := h.at_
  have hD := hD0.below (below_new w (.cells (keep.map (Value.int .i64)).toArray t))
  have hA : IntsAt (w.alloc (.cells (keep.map (Value.int .i64)).toArray t)) (w.alloc (.cells (keep.map (Value.int .i64)).toArray t)).heap.size (some ⟨w.heap.size, 0, none⟩) keep := fun hl => ⟨w.heap.size, 0, rfl, by simp, fun j hj => by
    have hj : j < keep.length := hj
    rw [Nat.zero_add, World.cell?_alloc_new]
    simp [intF, List.getD_eq_getElem?_getD, hj]⟩
  refine (crash_any b m s _ c keep _ hD h.ok (by have := h.lim.q; omega) hA (fun hk a e => ?_) hkl).mono fun e w' ⟨he, m', hD', hS⟩ => ⟨he, ?_⟩
  · injection e with e; subst e
    exact ⟨by have := hD0.lt; show w.heap.size ≠ b; omega, fun f hf q => by have := hD0.dlt hf q; simp at this⟩
  · rw [← hs]
    exact h2.go hD hK0 hD' hS (h.ok.crash keep) (h.lim.crash keep)
theorem Has.arm (h : Has w0 b K n w s) {A : Option Addr} {c : Nat} {keep : List Int} (k : Int) (hk : k ≤ 9223372036854775807) (hA : Apart w0 b w A keep) (hkl : keep.length ≤ 1000000000000) (hs : DK.arm s k keep = s') :
    Calls Try.prog 61 #[dp b, .int .i64 k, .slice A keep.length c] w fun e w' => e = .returned (.tuple #[]) ∧ Has w0 b K n w' s' := by
  obtain ⟨m, hD, hK⟩ := h.at_
  refine (arm_any b m s k A c keep w hD hA.1 hkl (fun hk a e => by have := hA.2 hk a e; omega)).mono fun e w' ⟨he, m', hD', hS⟩ => ⟨he, ?_⟩
  rw [← hs]
  exact h.go hD hK hD' hS (h.ok.arm k keep) ⟨h.lim.q, by show k.toNat ≤ _; omega, h.lim.lost, by show (if 1 ≤ k then keep else []).length ≤ _; split; exact hkl; exact Nat.zero_le _⟩
theorem Has.armNew (h : Has w0 b K n w s) {keep : List Int} (k : Int) (hk : k ≤ 9223372036854775807) (c t : Nat) (hkl : keep.length ≤ 1000000000000) (hs : DK.arm s k keep = s') :
    Calls Try.prog 61 #[dp b, .int .i64 k, .slice (some ⟨w.heap.size, 0, none⟩) keep.length c] (w.alloc (.cells (keep.map (Value.int .i64)).toArray t)) fun e w' => e = .returned (.tuple #[]) ∧ Has w0 b K n w' s' := by
  have h2 := h.below_ (below_new w (.cells (keep.map (Value.int .i64)).toArray t))
  obtain ⟨m, hD0, hK0⟩ := h.at_
  have hD := hD0.below (below_new w (.cells (keep.map (Value.int .i64)).toArray t))
  have hA : IntsAt (w.alloc (.cells (keep.map (Value.int .i64)).toArray t)) (w.alloc (.cells (keep.map (Value.int .i64)).toArray t)).heap.size (some ⟨w.heap.size, 0, none⟩) keep := fun hl => ⟨w.heap.size, 0, rfl, by simp, fun j hj => by
    have hj : j < keep.length := hj
    rw [Nat.zero_add, World.cell?_alloc_new]
    simp [intF, List.getD_eq_getElem?_getD, hj]⟩
  refine (arm_any b m s k _ c keep _ hD hA hkl (fun hk a e => ?_)).mono fun e w' ⟨he, m', hD', hS⟩ => ⟨he, ?_⟩
  · injection e with e; subst e
    have := hD0.lt; show w.heap.size ≠ b; omega
  · rw [← hs]
    exact h2.go hD hK0 hD' hS (h.ok.arm k keep) ⟨h.lim.q, by show k.toNat ≤ _; omega, h.lim.lost, by show (if 1 ≤ k then keep else []).length ≤ _; split; exact hkl; exact Nat.zero_le _⟩
theorem Has.start (h : Has w0 b K n w s) (hs : DK.start s = s') : Calls Try.prog 24 #[dp b] w fun e w' => e = .returned (.tuple #[]) ∧ Has w0 b K n w' s' := by
  obtain ⟨m, hD, hK⟩ := h.at_
  refine (start_any b m s w hD).mono fun e w' ⟨he, hD', hS⟩ => ⟨he, ?_⟩
  rw [← hs]
  exact h.go hD hK hD' hS h.ok.start ⟨h.lim.q, h.lim.armed, h.lim.lost, h.lim.keep⟩
theorem Has.lose (h : Has w0 b K n w s) (k : Int) (hk : k ≤ 9223372036854775807) (hs : DK.lose s k = s') : Calls Try.prog 59 #[dp b, .int .i64 k] w fun e w' => e = .returned (.tuple #[]) ∧ Has w0 b K n w' s' := by
  obtain ⟨m, hD, hK⟩ := h.at_
  refine (lose_any b m s k w hD).mono fun e w' ⟨he, hD', hS⟩ => ⟨he, ?_⟩
  rw [← hs]
  exact h.go hD hK hD' hS (h.ok.lose k) ⟨h.lim.q, h.lim.armed, by show k.toNat ≤ _; omega, h.lim.keep⟩
theorem Has.read (h : Has w0 b K n w s) (f : Int) {x : Bts} {v : Int} (hr : DK.read s f = (x, v)) : Calls Try.prog 20 #[dp b, .int .i64 f] w fun e w' => e = .returned (.tuple #[.string (bs x), .int .i64 v]) ∧ w = w' := by
  obtain ⟨m, hD, _⟩ := h.at_
  have := read_any b m s f w hD
  rw [hr] at this; exact this
theorem Has.size (h : Has w0 b K n w s) (f : Int) {v : Int} (hr : DK.size s f = v) : Calls Try.prog 21 #[dp b, .int .i64 f] w fun e w' => e = .returned (.int .i64 v) ∧ w = w' := by
  obtain ⟨m, hD, _⟩ := h.at_
  have := size_any b m s f w hD
  rw [hr] at this; exact this
theorem Has.down (h : Has w0 b K n w s) {v : Bool} (hr : s.down = v) : Calls Try.prog 35 #[dp b] w fun e w' => e = .returned (.bool v) ∧ w = w' := by
  obtain ⟨m, hD, _⟩ := h.at_
  have := down_any b m s w hD
  rw [hr] at this; exact this
end
end Go.Proofs.Ytmnimcdbfolhaaa

