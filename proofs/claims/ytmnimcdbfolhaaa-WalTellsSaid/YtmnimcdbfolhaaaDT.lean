/- Joined of: DT. -/
import Derived.Test.YtmnimcdbfolhaaaG04
/- The reference's disk in a law, at the disk's own state: one call a theorem. -/
set_option linter.unusedSimpArgs false
set_option linter.unusedVariables false
namespace Go.Proofs.Ytmnimcdbfolhaaa
open Go.RowKit DK
section
variable {s : St} {t : RS} {n : Nat}
theorem ROk.of (hS : Sim s t) (ok : Ok s) (cov : Cov s) (lim : Lim s n) (hn : n ≤ 1000000) (kl : t.keep.length ≤ 1000000000000) : ROk t :=
  ⟨fun f hf => by rw [hS.all cov hf]; exact ok.len f hf, by rw [hS.q, List.length_map]; have := lim.q; omega, by rw [hS.armed]; exact lim.armed, by rw [hS.lost]; exact lim.lost, kl⟩
theorem crash_keep (t : RS) (k : List Int) : (t.crash k).keep = t.keep := by unfold RS.crash; split <;> rfl
theorem comes_keep (t : RS) (f : Int) (x : Bts) : (t.comes f x).keep = t.keep := by
  unfold RS.comes
  split
  · rfl
  split
  · rfl
  rw [crash_keep]
  split
  · rw [put_keep]
  · rfl
theorem append_keep (t : RS) (f : Int) (x : Bts) : (t.append f x).2.keep = t.keep := by
  rw [append_is]
  split
  · exact comes_keep t f x
  split
  · split
    · exact comes_keep t f x
    · show (RS.put _ _ _).keep = _; rw [put_keep, comes_keep]
  · exact comes_keep t f x
theorem flush_keep (t : RS) (f : Int) : (t.flush f).2.keep = t.keep := by
  rw [flush_is]
  split
  · exact comes_keep t 0 []
  split
  · split
    · exact comes_keep t 0 []
    · exact comes_keep t 0 []
  · exact comes_keep t 0 []
theorem cut_keep (t : RS) (f n : Int) : (t.cut f n).2.keep = t.keep := by
  rw [cut_is]
  split
  · exact comes_keep t 0 []
  split
  · exact comes_keep t 0 []
  · exact comes_keep t 0 []
theorem turn_keep (t : RS) (f g : Int) : (t.turn f g).2.keep = t.keep := by
  rw [turn_is]
  split
  · exact comes_keep t 0 []
  split
  · split
    · exact comes_keep t 0 []
    · exact comes_keep t 0 []
  · exact comes_keep t 0 []
theorem ROk.comes (hS : Sim s t) (ok : Ok s) (cov : Cov s) (lim : Lim s n) (hn : n ≤ 999999) (kl : t.keep.length ≤ 1000000000000) (f : Int) (x : Bts) : ROk (t.comes f x) := by
  have kl2 : (t.comes f x).keep.length ≤ 1000000000000 := by rw [comes_keep]; exact kl
  cases hd : s.down
  · have hc := hS.comes ok cov hd f x
    by_cases h1 : isDue s = true
    · rw [if_pos h1] at hc
      exact ROk.of hc ((ok.dueS.addS f x).crash _) ((cov.dueS.addS f x).crash (ok.dueS.addS f x) _) ((lim.dueS.addS f x).crash _) (by omega) kl2
    · rw [if_neg h1] at hc
      exact ROk.of hc ok.dueS cov.dueS lim.dueS (by omega) kl2
  · rw [hS.stay hd f x] at kl2 ⊢
    exact ROk.of hS ok cov lim (by omega) kl2
end
structure RHas (w0 : World) (b : Nat) (P : Nat → Prop) (n : Nat) (w : World) (s : St) : Prop where
  t : ∃ t, Sim s t ∧ t.keep.length ≤ 1000000000000 ∧ RT w0 b P w t
  ok : Ok s
  cov : Cov s
  lim : Lim s n
section
variable {w0 w w' w2 : World} {b n : Nat} {P : Nat → Prop} {s s' : St}
theorem RHas.more {m : Nat} (h : RHas w0 b P n w s) (hm : n ≤ m) : RHas w0 b P m w s := ⟨h.t, h.ok, h.cov, h.lim.more hm⟩
theorem RHas.sub {Q : Nat → Prop} (h : RHas w0 b P n w s) (hq : ∀ k, Q k → P k) : RHas w0 b Q n w s := by
  obtain ⟨t, h1, h2, h3⟩ := h.t
  exact ⟨⟨t, h1, h2, h3.sub hq⟩, h.ok, h.cov, h.lim⟩
theorem RHas.lt (h : RHas w0 b P n w s) : ∀ k, P k → k < w.heap.size := by obtain ⟨t, _, _, h3⟩ := h.t; exact h3.lt
theorem RHas.blt (h : RHas w0 b P n w s) : b < w.heap.size := by obtain ⟨t, _, _, h3⟩ := h.t; exact h3.blt
theorem RHas.below (h : RHas w0 b P n w s) : Below w0.heap.size w0 w := by obtain ⟨t, _, _, h3⟩ := h.t; exact h3.below
theorem RHas.turn_ (h : RHas w0 b P n w s) {Q : Nat → Prop} (hos : w'.os = w.os) (htape : w'.tape = w.tape) (hout : w'.output = w.output) (hz : w.heap.size ≤ w'.heap.size)
    (hk : ∀ k, k < w.heap.size → ¬ P k ∨ k < w0.heap.size → w'.heap[k]? = w.heap[k]?) (hQ : ∀ k, Q k → (P k ∨ w.heap.size ≤ k) ∧ k < w'.heap.size) : RHas w0 b Q n w' s := by
  obtain ⟨t, h1, h2, h3⟩ := h.t
  exact ⟨⟨t, h1, h2, h3.turn_ hos htape hout hz hk hQ⟩, h.ok, h.cov, h.lim⟩
theorem RHas.below_ (h : RHas w0 b P n w s) (hb : Below w.heap.size w w') : RHas w0 b P n w' s :=
  h.turn_ hb.os hb.tape hb.output hb.size (fun k hk _ => hb.block k hk) (fun k q => ⟨.inl q, Nat.lt_of_lt_of_le (h.lt k q) hb.size⟩)
theorem RHas.with_ (h : RHas w0 b P n w s) (hb : Below w.heap.size w w') {Q : Nat → Prop} (hQ : ∀ k, Q k → w.heap.size ≤ k ∧ k < w'.heap.size) : RHas w0 b (fun k => P k ∨ Q k) n w' s :=
  h.turn_ hb.os hb.tape hb.output hb.size (fun k hk _ => hb.block k hk) (fun k q => by
    rcases q with q | q
    · exact ⟨.inl q, Nat.lt_of_lt_of_le (h.lt k q) hb.size⟩
    · exact ⟨.inr (hQ k q).1, (hQ k q).2⟩)
theorem RHas.new (P : Nat → Prop) (w : World) (hb : Below w0.heap.size w0 w) (hP : ∀ k, P k → k < w.heap.size) : Calls Try.prog 26 #[] w fun e w' => ∃ b, e = .returned (dp b) ∧ RHas w0 b P 0 w' St.zero ∧ Below w.heap.size w w' :=
  (rnew_any P w hb hP).mono fun e w' ⟨he, h, hB⟩ => ⟨_, he, ⟨⟨RS.zero, Sim.zero, by simp [RS.zero], h⟩, Ok.zero, Cov.zero, Lim.zero⟩, hB⟩
theorem RHas.append (h : RHas w0 b P n w s) (f : Int) (x : Bts) (hx : x.length ≤ 4611686018427387904) (hn : n ≤ 999999) {v : Int} (hv : (DK.append s f x).1 = v) (hs : (DK.append s f x).2 = s') :
    Calls Try.prog 28 #[dp b, .int .i64 f, .string (bs x)] w fun e w' => e = .returned (.int .i64 v) ∧ RHas w0 b P (n + 1) w' s' ∧ Keep P w w' := by
  obtain ⟨t, hS, hl, hT⟩ := h.t
  have hk := ROk.of hS h.ok h.cov h.lim (by omega) hl
  have hq : t.q.length ≤ 999999 := by rw [hS.q, List.length_map]; have := h.lim.q; omega
  obtain ⟨e1, e2⟩ := hS.append h.ok h.cov f x
  refine (rappend_any hT hk hq f x hx (ROk.comes hS h.ok h.cov h.lim hn hl f x)).mono fun e w' ⟨he, hT', hK⟩ => ⟨by rw [he, e1, hv], ?_, hK⟩
  rw [← hs]
  exact ⟨⟨_, e2, by rw [append_keep]; exact hl, hT'⟩, h.ok.append f x, h.cov.append h.ok f x, h.lim.append f x⟩
theorem RHas.flush (h : RHas w0 b P n w s) (f : Int) (hn : n ≤ 999999) {v : Int} (hv : (DK.flush s f).1 = v) (hs : (DK.flush s f).2 = s') :
    Calls Try.prog 76 #[dp b, .int .i64 f] w fun e w' => e = .returned (.int .i64 v) ∧ RHas w0 b P n w' s' ∧ Keep P w w' := by
  obtain ⟨t, hS, hl, hT⟩ := h.t
  have hk := ROk.of hS h.ok h.cov h.lim (by omega) hl
  have hq : t.q.length ≤ 999999 := by rw [hS.q, List.length_map]; have := h.lim.q; omega
  obtain ⟨e1, e2⟩ := hS.flush h.ok h.cov f
  refine (rflush_any hT hk hq f (ROk.comes hS h.ok h.cov h.lim hn hl 0 [])).mono fun e w' ⟨he, hT', hK⟩ => ⟨by rw [he, e1, hv], ?_, hK⟩
  rw [← hs]
  exact ⟨⟨_, e2, by rw [flush_keep]; exact hl, hT'⟩, h.ok.flush f, h.cov.flush h.ok f, h.lim.flush f⟩
theorem RHas.cut (h : RHas w0 b P n w s) (f k : Int) (hn : n ≤ 999999) {v : Int} (hv : (DK.cut s f k).1 = v) (hs : (DK.cut s f k).2 = s') :
    Calls Try.prog 75 #[dp b, .int .i64 f, .int .i64 k] w fun e w' => e = .returned (.int .i64 v) ∧ RHas w0 b P n w' s' ∧ Keep P w w' := by
  obtain ⟨t, hS, hl, hT⟩ := h.t
  have hk := ROk.of hS h.ok h.cov h.lim (by omega) hl
  have hq : t.q.length ≤ 999999 := by rw [hS.q, List.length_map]; have := h.lim.q; omega
  obtain ⟨e1, e2⟩ := hS.cut h.ok h.cov f k
  refine (rcut_any hT hk hq f k (ROk.comes hS h.ok h.cov h.lim hn hl 0 [])).mono fun e w' ⟨he, hT', hK⟩ => ⟨by rw [he, e1, hv], ?_, hK⟩
  rw [← hs]
  exact ⟨⟨_, e2, by rw [cut_keep]; exact hl, hT'⟩, h.ok.cut f k, h.cov.cut h.ok f k, h.lim.cut f k⟩
theorem RHas.turn (h : RHas w0 b P n w s) (f g : Int) (hn : n ≤ 999999) {v : Int} (hv : (DK.turn s f g).1 = v) (hs : (DK.turn s f g).2 = s') :
    Calls Try.prog 80 #[dp b, .int .i64 f, .int .i64 g] w fun e w' => e = .returned (.int .i64 v) ∧ RHas w0 b P n w' s' ∧ Keep P w w' := by
  obtain ⟨t, hS, hl, hT⟩ := h.t
  have hk := ROk.of hS h.ok h.cov h.lim (by omega) hl
  have hq : t.q.length ≤ 999999 := by rw [hS.q, List.length_map]; have := h.lim.q; omega
  obtain ⟨e1, e2⟩ := hS.turn h.ok h.cov f g
  refine (rturn_any hT hk hq f g (ROk.comes hS h.ok h.cov h.lim hn hl 0 [])).mono fun e w' ⟨he, hT', hK⟩ => ⟨by rw [he, e1, hv], ?_, hK⟩
  rw [← hs]
  exact ⟨⟨_, e2, by rw [turn_keep]; exact hl, hT'⟩, h.ok.turn f g, h.cov.turn h.ok f g, h.lim.turn f g⟩
theorem RHas.crash (h : RHas w0 b P n w s) {A : Option Addr} {c : Nat} {keep : List Int} (hA : IntsAt w0 w0.heap.size A keep) (hkl : keep.length ≤ 9223372036854775807) (hn : n ≤ 999999) (hs : DK.crash s keep = s') :
    Calls Try.prog 56 #[dp b, .slice A keep.length c] w fun e w' => e = .returned (.tuple #[]) ∧ RHas w0 b P n w' s' ∧ Keep P w w' := by
  obtain ⟨t, hS, hl, hT⟩ := h.t
  have hk := ROk.of hS h.ok h.cov h.lim (by omega) hl
  refine (rcrash_any hT hk ((hA.below hT.below).more hT.below.size) (fun q a e => ?_) hkl).mono fun e w' ⟨he, hT', hK⟩ => ⟨he, ?_, hK⟩
  · obtain ⟨b', o, e', hlt, _⟩ := hA q
    rw [e] at e'; injection e' with e'; subst e'
    obtain ⟨m, hD, _⟩ := hT.at_
    have hlt : b' < w0.heap.size := hlt
    have := hD.lo
    show b' ≠ b; omega
  · rw [← hs]
    exact ⟨⟨_, hS.crash h.ok h.cov keep, by rw [crash_keep]; exact hl, hT'⟩, h.ok.crash keep, h.cov.crash h.ok keep, h.lim.crash keep⟩
theorem RHas.arm (h : RHas w0 b P n w s) {A : Option Addr} {c : Nat} {keep : List Int} (k : Int) (hk : k ≤ 9223372036854775807) (hA : IntsAt w0 w0.heap.size A keep) (hkl : keep.length ≤ 1000000000000) (hs : DK.arm s k keep = s') :
    Calls Try.prog 62 #[dp b, .int .i64 k, .slice A keep.length c] w fun e w' => e = .returned (.tuple #[]) ∧ RHas w0 b P n w' s' ∧ Keep P w w' := by
  obtain ⟨t, hS, hl, hT⟩ := h.t
  refine (rarm_any hT k hA hkl).mono fun e w' ⟨he, hT', hK⟩ => ⟨he, ?_, hK⟩
  rw [← hs]
  exact ⟨⟨_, hS.arm k keep, hkl, hT'⟩, h.ok.arm k keep, h.cov, ⟨h.lim.q, by show k.toNat ≤ _; omega, h.lim.lost, by show (if 1 ≤ k then keep else []).length ≤ _; split; exact hkl; exact Nat.zero_le _⟩⟩
theorem RHas.start (h : RHas w0 b P n w s) (hs : DK.start s = s') : Calls Try.prog 57 #[dp b] w fun e w' => e = .returned (.tuple #[]) ∧ RHas w0 b P n w' s' ∧ Keep P w w' := by
  obtain ⟨t, hS, hl, hT⟩ := h.t
  refine (rstart_any hT).mono fun e w' ⟨he, hT', hK⟩ => ⟨he, ?_, hK⟩
  rw [← hs]
  exact ⟨⟨_, hS.start, hl, hT'⟩, h.ok.start, h.cov, ⟨h.lim.q, h.lim.armed, h.lim.lost, h.lim.keep⟩⟩
theorem RHas.lose (h : RHas w0 b P n w s) (k : Int) (hk : k ≤ 9223372036854775807) (hs : DK.lose s k = s') : Calls Try.prog 60 #[dp b, .int .i64 k] w fun e w' => e = .returned (.tuple #[]) ∧ RHas w0 b P n w' s' ∧ Keep P w w' := by
  obtain ⟨t, hS, hl, hT⟩ := h.t
  refine (rlose_any hT k).mono fun e w' ⟨he, hT', hK⟩ => ⟨he, ?_, hK⟩
  rw [← hs]
  exact ⟨⟨_, hS.lose k, hl, hT'⟩, h.ok.lose k, h.cov, ⟨h.lim.q, h.lim.armed, by show k.toNat ≤ _; omega, h.lim.keep⟩⟩
theorem RHas.read (h : RHas w0 b P n w s) (hn : n ≤ 1000000) (f : Int) {x : Bts} {v : Int} (hr : DK.read s f = (x, v)) : Calls Try.prog 73 #[dp b, .int .i64 f] w fun e w' => e = .returned (.tuple #[.string (bs x), .int .i64 v]) ∧ w = w' := by
  obtain ⟨t, hS, hl, hT⟩ := h.t
  have := rread_any hT (ROk.of hS h.ok h.cov h.lim hn hl) f
  rw [hS.read h.cov f, hr] at this; exact this
theorem RHas.size (h : RHas w0 b P n w s) (hn : n ≤ 1000000) (f : Int) {v : Int} (hr : DK.size s f = v) : Calls Try.prog 34 #[dp b, .int .i64 f] w fun e w' => e = .returned (.int .i64 v) ∧ w = w' := by
  obtain ⟨t, hS, hl, hT⟩ := h.t
  have := rsize_any hT (ROk.of hS h.ok h.cov h.lim hn hl) f
  rw [hS.size h.cov f, hr] at this; exact this
theorem RHas.down (h : RHas w0 b P n w s) {v : Bool} (hr : s.down = v) : Calls Try.prog 36 #[dp b] w fun e w' => e = .returned (.bool v) ∧ w = w' := by
  obtain ⟨t, hS, hl, hT⟩ := h.t
  have := rdown_any hT
  rw [hS.down, hr] at this; exact this
end
end Go.Proofs.Ytmnimcdbfolhaaa

