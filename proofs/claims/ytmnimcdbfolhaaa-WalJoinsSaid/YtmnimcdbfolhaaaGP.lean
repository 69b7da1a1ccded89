/- Plain laws: a disk that is up and in order. -/
import Derived.Test.YtmnimcdbfolhaaaWQ
set_option linter.unusedSimpArgs false
set_option linter.unusedVariables false
namespace Go.Proofs.Ytmnimcdbfolhaaa
open Go.RowKit DK
attribute [local go_sem] alloc_drewN setCell_drewN shape_drewN
namespace DK
def appS (s : St) (f : Nat) (x : Bts) : St := { s with data := upd s.data f (s.data f ++ recd x), q := s.q ++ pend f (s.data f).length (recd x) }
/-- A disk that is up and in order. -/
structure G (s : St) : Prop where
  up : Up s
  ok : Ok s
  cov : Cov s
section
variable {s : St} {f : Nat}
theorem G.zero : G St.zero := ⟨Up.zero, Ok.zero, Cov.zero⟩
theorem appS_eq (h : Up s) (hf : f < 8) (x : Bts) (hl : (s.data f).length + (x.length + 7) ≤ 16777216) : DK.append s (f : Int) (recd x) = (0, appS s f x) := append_up h hf (recd x) (by rw [recd_len]; exact hl)
theorem G.app (h : G s) (hf : f < 8) (x : Bts) (hl : (s.data f).length + (x.length + 7) ≤ 16777216) : G (appS s f x) := by
  have e := appS_eq h.up hf x hl
  have h1 := h.up.append (f : Int) (recd x)
  have h2 := h.ok.append (f : Int) (recd x)
  have h3 := h.cov.append h.ok (f : Int) (recd x)
  rw [e] at h1 h2 h3
  exact ⟨h1, h2, h3⟩
theorem G.flush (h : G s) : G (flushS s f) := ⟨h.up.flushS f, h.ok.flushS, h.cov.flushS f⟩
theorem G.opn (h : G s) (hf : f + 1 < 8) : G (opnS s f) := ⟨opnS_up h.up f, opnS_ok h.ok f, opnS_cov h.cov hf⟩
theorem G.rew (h : G s) (hf : f + 1 < 8) (m : List Bts) (hm : (recs m).length ≤ 16777216) : G (rewS s f m) := by
  have hU := opn2_up h.up f
  have hO := opn2_ok h.ok f
  have hC := opn2_cov h.cov hf
  have hD := opn2_data s f
  have e := append_up hU (f := f + 1) hf (recs m) (by rw [hD]; show 0 + _ ≤ _; omega)
  have h2 := hO.append ((f + 1 : Nat) : Int) (recs m)
  have h3 := hC.append hO ((f + 1 : Nat) : Int) (recs m)
  rw [e] at h2 h3
  exact ⟨rewS_up h.up f m, Ok.turnS (h2.flushS (f := f + 1)) hf (no_after _ _), Cov.turnS (h3.flushS (f + 1)) (by omega) hf (by omega) (no_after _ _)⟩
theorem G.crashed (h : G s) (keep : List Int) : G (start (crash s keep)) := ⟨crash_up h.up keep, (h.ok.crash keep).start, h.cov.crash h.ok keep⟩
theorem wapp_g (h : G s) (hf : f < 8) (R : List Bts) (x : Bts) (hx : x.length ≤ 1048576) (hl : (s.data f).length + (x.length + 7) ≤ 16777216) : wappS s (f : Int) R x = (0, appS s f x, R ++ [x]) := wapp_up h.up hf R x hx hl
theorem lead_nil : ∀ (q : List Pd) (i : Nat), (∀ p ∈ q, p.file = f → p.fr < p.un) → lead [] f i q = 0
  | [], _, _ => rfl
  | p :: q, i, h => by
    unfold lead
    by_cases hp : p.file = f
    · have := h p (by simp) hp
      rw [if_pos hp, if_neg]
      show ¬ 0 = _
      omega
    · rw [if_neg hp]; exact lead_nil q (i + 1) fun r hr => h r (by simp [hr])
theorem G.pos (h : G s) (hf : f < 8) : ∀ p ∈ s.q, p.file = f → p.fr < p.un := fun p hp hpf => by
  have := (chain_le (h.cov f hf)).2 p (List.mem_filter.2 ⟨hp, decide_eq_true hpf⟩)
  exact this.2.1
theorem crash_none (h : G s) (hf : f < 8) {R X : List Bts} (hR : Recs s f R X) : rowsOf ((crash s []).data f) = R := by
  rw [crash_rows h.ok h.cov h.up.down hf hR, lead_nil _ _ (h.pos hf)]; simp
theorem wapp_down (h : s.down = true) (R : List Bts) (x : Bts) (hx : x.length ≤ 1048576) : wappS s (f : Int) R x = (9, s, R) := by
  unfold wappS DK.append
  rw [if_neg (by omega), h]; rfl
end
end DK
end Go.Proofs.Ytmnimcdbfolhaaa
