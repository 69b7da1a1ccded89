/- A disk beside a set of blocks that stay: one call a theorem. -/
import Derived.Test.YtmnimcdbfolhaaaH1
set_option linter.unusedSimpArgs false
set_option linter.unusedVariables false
namespace Go.Proofs.Ytmnimcdbfolhaaa
open Go.RowKit DK
/-- The blocks of the set stay as they are. -/
structure Keep (P : Nat → Prop) (w w' : World) : Prop where
  size : w.heap.size ≤ w'.heap.size
  block : ∀ k, k < w.heap.size → P k → w'.heap[k]? = w.heap[k]?
structure HasP (w0 : World) (b : Nat) (P : Nat → Prop) (n : Nat) (w : World) (s : St) : Prop where
  ok : Ok s
  lim : Lim s n
  at_ : ∃ m, DiskAt w b m s ∧ ∀ k, P k → ¬ foot b m k
  lt : ∀ k, P k → k < w.heap.size
  below : Below w0.heap.size w0 w
  base : w0.heap.size ≤ b
section
variable {w0 w w' w2 : World} {b n : Nat} {P : Nat → Prop} {s s' : St}
theorem Keep.refl (P : Nat → Prop) (w : World) : Keep P w w := ⟨Nat.le_refl _, fun _ _ _ => rfl⟩
theorem Keep.trans (h : Keep P w w') (k : Keep P w' w2) : Keep P w w2 := ⟨Nat.le_trans h.size k.size, fun i hi hp => (k.block i (Nat.lt_of_lt_of_le hi h.size) hp).trans (h.block i hi hp)⟩
theorem Keep.of_below (h : Below w.heap.size w w') : Keep P w w' := ⟨h.size, fun k hk _ => h.block k hk⟩
theorem Keep.sub {Q : Nat → Prop} (h : Keep P w w') (hq : ∀ k, Q k → P k) : Keep Q w w' := ⟨h.size, fun k hk hp => h.block k hk (hq k hp)⟩
theorem HasP.more {m : Nat} (h : HasP w0 b P n w s) (hm : n ≤ m) : HasP w0 b P m w s := ⟨h.ok, h.lim.more hm, h.at_, h.lt, h.below, h.base⟩
theorem HasP.sub {Q : Nat → Prop} (h : HasP w0 b P n w s) (hq : ∀ k, Q k → P k) : HasP w0 b Q n w s := by
  obtain ⟨m, hD, hP⟩ := h.at_
  exact ⟨h.ok, h.lim, ⟨m, hD, fun k hk => hP k (hq k hk)⟩, fun k hk => h.lt k (hq k hk), h.below, h.base⟩
theorem HasP.blt (h : HasP w0 b P n w s) : b < w.heap.size := by obtain ⟨m, hD, _⟩ := h.at_; exact hD.lt
theorem HasP.nb (h : HasP w0 b P n w s) : ¬ P b := fun q => by obtain ⟨m, hD, hP⟩ := h.at_; exact hP b q (.inl rfl)
/-- One call on the disk. -/
theorem HasP.go {m m' : Dm} {n' : Nat} (h : HasP w0 b P n w s) (hD : DiskAt w b m s) (hP : ∀ k, P k → ¬ foot b m k) (hD' : DiskAt w' b m' s') (hS : Stp b m w m' w') (hok : Ok s') (hl : Lim s' n') : HasP w0 b P n' w' s' ∧ Keep P w w' := by
  refine ⟨⟨hok, hl, ⟨m', hD', fun k hk q => ?_⟩, fun k hk => Nat.lt_of_lt_of_le (h.lt k hk) hS.size, h.below.trans (hS.below h.below.size (fun k hk => Nat.le_trans h.base (hD.foot_lt hk).2)), h.base⟩, ⟨hS.size, fun k hk hp => hS.block k hk (hP k hp)⟩⟩
  have := h.lt k hk
  rcases hS.foot _ q with q | q
  · exact hP k hk q
  · omega
/-- Blocks of the set, or new ones, turn; the disk's do not; the set becomes another. -/
theorem HasP.turn_ (h : HasP w0 b P n w s) {Q : Nat → Prop} (hos : w'.os = w.os) (htape : w'.tape = w.tape) (hout : w'.output = w.output) (hz : w.heap.size ≤ w'.heap.size)
    (hk : ∀ k, k < w.heap.size → ¬ P k ∨ k < w0.heap.size → w'.heap[k]? = w.heap[k]?) (hQ : ∀ k, Q k → (P k ∨ w.heap.size ≤ k) ∧ k < w'.heap.size) : HasP w0 b Q n w' s := by
  obtain ⟨m, hD, hP⟩ := h.at_
  have hb := h.below
  refine ⟨h.ok, h.lim, ⟨m, hD.keep hz fun k hlt hf => hk k hlt (.inl fun q => hP k q hf), fun k q hf => ?_⟩, fun k q => (hQ k q).2, ⟨hos.trans hb.os, htape.trans hb.tape, hout.trans hb.output, Nat.le_trans hb.size hz, fun k hlt => ?_⟩, h.base⟩
  · rcases (hQ k q).1 with q | q
    · exact hP k q hf
    · have := (hD.foot_lt hf).1; omega
  · exact (hk k (Nat.lt_of_lt_of_le hlt hb.size) (.inr hlt)).trans (hb.block k hlt)
/-- New blocks alone. -/
theorem HasP.below_ (h : HasP w0 b P n w s) (hb : Below w.heap.size w w') : HasP w0 b P n w' s :=
  h.turn_ hb.os hb.tape hb.output hb.size (fun k hk _ => hb.block k hk) (fun k q => ⟨.inl q, Nat.lt_of_lt_of_le (h.lt k q) hb.size⟩)
/-- .. some of which are to stay. -/
theorem HasP.with_ (h : HasP w0 b P n w s) (hb : Below w.heap.size w w') {Q : Nat → Prop} (hQ : ∀ k, Q k → w.heap.size ≤ k ∧ k < w'.heap.size) : HasP w0 b (fun k => P k ∨ Q k) n w' s :=
  h.turn_ hb.os hb.tape hb.output hb.size (fun k hk _ => hb.block k hk) (fun k q => by
    rcases q with q | q
    · exact ⟨.inl q, Nat.lt_of_lt_of_le (h.lt k q) hb.size⟩
    · exact ⟨.inr (hQ k q).1, (hQ k q).2⟩)
theorem HasP.new (P : Nat → Prop) (w : World) (hb : Below w0.heap.size w0 w) (hP : ∀ k, P k → k < w.heap.size) : Calls Try.prog 15 #[] w fun e w' => ∃ b, e = .returned (dp b) ∧ HasP w0 b P 0 w' St.zero ∧ b = w.heap.size ∧ Below w.heap.size w w' :=
  (new_any w).mono fun e w' ⟨he, hD, hB⟩ => ⟨w.heap.size, he, ⟨Ok.zero, Lim.zero, ⟨_, hD, fun k hk q => by
    rcases q with q | ⟨f, _, q⟩ | q | ⟨a, q, _⟩
    · have := hP k hk; omega
    · cases q
    · cases q
    · cases q⟩, fun k hk => Nat.lt_of_lt_of_le (hP k hk) hB.size, hb.trans (hB.mono hb.size), hb.size⟩, rfl, hB⟩
theorem HasP.append (h : HasP w0 b P n w s) (f : Int) (x : Bts) (hx : x.length ≤ 9223372036854775807) (hn : n ≤ 999999) {v : Int} (hv : (DK.append s f x).1 = v) (hs : (DK.append s f x).2 = s') :
    Calls Try.prog 16 #[dp b, .int .i64 f, .string (bs x)] w fun e w' => e = .returned (.int .i64 v) ∧ HasP w0 b P (n + 1) w' s' ∧ Keep P w w' := by
  obtain ⟨m, hD, hK⟩ := h.at_
  refine (append_any b m s f x w hD h.ok (Nat.le_trans h.lim.q hn) hx h.lim.armed (by have := h.lim.keep; omega)).mono fun e w' ⟨he, m', hD', hS⟩ => ⟨by rw [he, hv], ?_⟩
  rw [← hs]
  exact h.go hD hK hD' hS (h.ok.append f x) (h.lim.append f x)
theorem HasP.flush (h : HasP w0 b P n w s) (f : Int) (hn : n ≤ 999999) {v : Int} (hv : (DK.flush s f).1 = v) (hs : (DK.flush s f).2 = s') :
    Calls Try.prog 43 #[dp b, .int .i64 f] w fun e w' => e = .returned (.int .i64 v) ∧ HasP w0 b P n w' s' ∧ Keep P w w' := by
  obtain ⟨m, hD, hK⟩ := h.at_
  refine (flush_any b m s f w hD h.ok (by have := h.lim.q; omega) h.lim.armed h.lim.lost (by have := h.lim.keep; omega)).mono fun e w' ⟨he, m', hD', hS⟩ => ⟨by rw [he, hv], ?_⟩
  rw [← hs]
  exact h.go hD hK hD' hS (h.ok.flush f) (h.lim.flush f)
theorem HasP.cut (h : HasP w0 b P n w s) (f k : Int) (hn : n ≤ 999999) {v : Int} (hv : (DK.cut s f k).1 = v) (hs : (DK.cut s f k).2 = s') :
    Calls Try.prog 42 #[dp b, .int .i64 f, .int .i64 k] w fun e w' => e = .returned (.int .i64 v) ∧ HasP w0 b P n w' s' ∧ Keep P w w' := by
  obtain ⟨m, hD, hK⟩ := h.at_
  refine (cut_any b m s f k w hD h.ok (by have := h.lim.q; omega) h.lim.armed (by have := h.lim.keep; omega)).mono fun e w' ⟨he, m', hD', hS⟩ => ⟨by rw [he, hv], ?_⟩
  rw [← hs]
  exact h.go hD hK hD' hS (h.ok.cut f k) (h.lim.cut f k)
theorem HasP.turn (h : HasP w0 b P n w s) (f g : Int) (hn : n ≤ 999999) {v : Int} (hv : (DK.turn s f g).1 = v) (hs : (DK.turn s f g).2 = s') :
    Calls Try.prog 47 #[dp b, .int .i64 f, .int .i64 g] w fun e w' => e = .returned (.int .i64 v) ∧ HasP w0 b P n w' s' ∧ Keep P w w' := by
  obtain ⟨m, hD, hK⟩ := h.at_
  refine (turn_any b m s f g w hD h.ok (by have := h.lim.q; omega) h.lim.armed (by have := h.lim.keep; omega)).mono fun e w' ⟨he, m', hD', hS⟩ => ⟨by rw [he, hv], ?_⟩
  rw [← hs]
  exact h.go hD hK hD' hS (h.ok.turn f g) (h.lim.turn f g)
theorem Apart.oldP {A : Option Addr} {keep : List Int} (h : HasP w0 b P n w s) (hA : IntsAt w0 w0.heap.size A keep) : Apart w0 b w A keep :=
  ⟨(hA.below h.below).more h.below.size, fun hk a e => by
    obtain ⟨b', o, e', hlt, _⟩ := hA (List.length_pos_iff.2 hk)
    rw [e] at e'; injection e' with e'; subst e'
    have := h.base
    show b' < b; omega⟩
theorem HasP.crash (h : HasP w0 b P n w s) {A : Option Addr} {c : Nat} {keep : List Int} (hA : Apart w0 b w A keep) (hkl : keep.length ≤ 9223372036854775807) (hn : n ≤ 999999) (hs : DK.crash s keep = s') :
    Calls Try.prog 23 #[dp b, .slice A keep.length c] w fun e w' => e = .returned (.tuple #[]) ∧ HasP w0 b P n w' s' ∧ Keep P w w' := by
  obtain ⟨m, hD, hK⟩ := h.at_
  refine (crash_any b m s A c keep w hD h.ok (by have := h.lim.q; omega) hA.1 (fun hk a e => ⟨by have := hA.2 hk a e; omega, fun f hf q => by have := hA.2 hk a e; have := hD.dlt hf q; omega⟩) hkl).mono fun e w' ⟨he, m', hD', hS⟩ => ⟨he, ?_⟩
  rw [← hs]
  exact h.go hD hK hD' hS (h.ok.crash keep) (h.lim.crash keep)
theorem HasP.arm (h : HasP w0 b P n w s) {A : Option Addr} {c : Nat} {keep : List Int} (k : Int) (hk : k ≤ 9223372036854775807) (hA : Apart w0 b w A keep) (hkl : keep.length ≤ 1000000000000) (hs : DK.arm s k keep = s') :
    Calls Try.prog 61 #[dp b, .int .i64 k, .slice A keep.length c] w fun e w' => e = .returned (.tuple #[]) ∧ HasP w0 b P n w' s' ∧ Keep P w w' := by
  obtain ⟨m, hD, hK⟩ := h.at_
  refine (arm_any b m s k A c keep w hD hA.1 hkl (fun hk a e => by have := hA.2 hk a e; omega)).mono fun e w' ⟨he, m', hD', hS⟩ => ⟨he, ?_⟩
  rw [← hs]
  exact h.go hD hK hD' hS (h.ok.arm k keep) ⟨h.lim.q, by show k.toNat ≤ _; omega, h.lim.lost, by show (if 1 ≤ k then keep else []).length ≤ _; split; exact hkl; exact Nat.zero_le _⟩
theorem HasP.start (h : HasP w0 b P n w s) (hs : DK.start s = s') : Calls Try.prog 24 #[dp b] w fun e w' => e = .returned (.tuple #[]) ∧ HasP w0 b P n w' s' ∧ Keep P w w' := by
  obtain ⟨m, hD, hK⟩ := h.at_
  refine (start_any b m s w hD).mono fun e w' ⟨he, hD', hS⟩ => ⟨he, ?_⟩
  rw [← hs]
  exact h.go hD hK hD' hS h.ok.start ⟨h.lim.q, h.lim.armed, h.lim.lost, h.lim.keep⟩
theorem HasP.lose (h : HasP w0 b P n w s) (k : Int) (hk : k ≤ 9223372036854775807) (hs : DK.lose s k = s') : Calls Try.prog 59 #[dp b, .int .i64 k] w fun e w' => e = .returned (.tuple #[]) ∧ HasP w0 b P n w' s' ∧ Keep P w w' := by
  obtain ⟨m, hD, hK⟩ := h.at_
  refine (lose_any b m s k w hD).mono fun e w' ⟨he, hD', hS⟩ => ⟨he, ?_⟩
  rw [← hs]
  exact h.go hD hK hD' hS (h.ok.lose k) ⟨h.lim.q, h.lim.armed, by show k.toNat ≤ _; omega, h.lim.keep⟩
theorem HasP.read (h : HasP w0 b P n w s) (f : Int) {x : Bts} {v : Int} (hr : DK.read s f = (x, v)) : Calls Try.prog 20 #[dp b, .int .i64 f] w fun e w' => e = .returned (.tuple #[.string (bs x), .int .i64 v]) ∧ w = w' := by
  obtain ⟨m, hD, _⟩ := h.at_
  have := read_any b m s f w hD
  rw [hr] at this; exact this
theorem HasP.size (h : HasP w0 b P n w s) (f : Int) {v : Int} (hr : DK.size s f = v) : Calls Try.prog 21 #[dp b, .int .i64 f] w fun e w' => e = .returned (.int .i64 v) ∧ w = w' := by
  obtain ⟨m, hD, _⟩ := h.at_
  have := size_any b m s f w hD
  rw [hr] at this; exact this
theorem HasP.down (h : HasP w0 b P n w s) {v : Bool} (hr : s.down = v) : Calls Try.prog 35 #[dp b] w fun e w' => e = .returned (.bool v) ∧ w = w' := by
  obtain ⟨m, hD, _⟩ := h.at_
  have := down_any b m s w hD
  rw [hr] at this; exact this
end
end Go.Proofs.Ytmnimcdbfolhaaa
