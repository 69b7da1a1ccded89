/- Plain laws of one search for a way along which the flow can be increased. -/
import Derived.Test.YtphebdmdbnpokaaFMath3
set_option linter.unusedSimpArgs false
set_option linter.unusedVariables false
namespace Go.Proofs.Ytphebdmdbnpokaa.FM

def upd (tr : Int → Nat) (v : Int) (x : Nat) : Int → Nat := fun u => if u = v then x else tr u
theorem upd_same (tr : Int → Nat) (v : Int) (x : Nat) : upd tr v x v = x := by simp [upd]
theorem upd_other (tr : Int → Nat) (v : Int) (x : Nat) {u : Int} (h : u ≠ v) : upd tr v x u = tr u := by simp [upd, h]

/-- What a search from v with a limit does: got litres more flow from v to t. -/
structure Push (A : List Arc) (t : Int) (D : Int → Int) (v lim : Int) (L : List Int) (tr : Int → Nat) (got : Int) (L' : List Int) (tr' : Int → Nat) : Prop where
  res : Res A L'
  lo : 0 ≤ got
  hi : got ≤ lim
  exc : ∀ u, exc A (flowOf A L') u = FM.exc A (flowOf A L) u + ind (v == u) got - ind (t == u) got
  keep : ∀ e, e < 2 * A.length → D (fr A e) < D v → L'.getD e 0 = L.getD e 0
  trlo : ∀ u, tr u ≤ tr' u
  trhi : ∀ u, tr' u ≤ (outs A u).length
  trkeep : ∀ u, D u < D v → tr' u = tr u
  fail : got = 0 → L' = L ∧ (Tried A L t D tr → Tried A L t D tr' ∧ v ≠ t ∧ tr' v = (outs A v).length)
/-- The state of the search among the edges from v. -/
structure Seek (A : List Arc) (t : Int) (D : Int → Int) (v : Int) (L : List Int) (tr tc : Int → Nat) : Prop where
  trlo : ∀ u, tr u ≤ tc u
  trhi : ∀ u, tc u ≤ (outs A u).length
  trkeep : ∀ u, D u < D v → tc u = tr u
  tried : Tried A L t D tr → Tried A L t D tc

theorem Push.base {A : List Arc} {t lim : Int} {D : Int → Int} {L : List Int} {tr : Int → Nat} (hr : Res A L) (hl : 0 < lim) (ht : ∀ u, tr u ≤ (outs A u).length) : Push A t D t lim L tr lim L tr :=
  ⟨hr, by omega, by omega, fun u => by omega, fun _ _ _ => rfl, fun _ => Nat.le_refl _, ht, fun _ _ => rfl, fun h => by omega⟩
theorem Seek.begin {A : List Arc} {t : Int} {D : Int → Int} {v : Int} {L : List Int} {tr : Int → Nat} (ht : ∀ u, tr u ≤ (outs A u).length) : Seek A t D v L tr tr :=
  ⟨fun _ => Nat.le_refl _, ht, fun _ _ => rfl, id⟩
theorem tried_more {A : List Arc} {t : Int} {D : Int → Int} {v : Int} {L : List Int} {tc : Int → Nat} {e : Nat} (hv : tc v < (outs A v).length) (he : (outs A v)[tc v]? = some e)
    (hd : L.getD e 0 = 0 ∨ D (to A e) ≠ D v + 1 ∨ (to A e ≠ t ∧ tc (to A e) = (outs A (to A e)).length)) (h : Tried A L t D tc) : Tried A L t D (upd tc v (tc v + 1)) := by
  intro u j e' hj he'
  have third : ∀ w : Int, tc w = (outs A w).length → upd tc v (tc v + 1) w = (outs A w).length := by
    intro w hw
    by_cases hwv : w = v
    · subst hwv; omega
    · rw [upd_other _ _ _ hwv]; exact hw
  by_cases huv : u = v
  · subst huv
    rw [upd_same] at hj
    by_cases hj2 : j < tc u
    · rcases h u j e' hj2 he' with g | g | ⟨g1, g2⟩
      · exact .inl g
      · exact .inr (.inl g)
      · exact .inr (.inr ⟨g1, third _ g2⟩)
    · obtain rfl : j = tc u := by omega
      rw [he] at he'
      obtain rfl := Option.some.inj he'
      rcases hd with g | g | ⟨g1, g2⟩
      · exact .inl g
      · exact .inr (.inl g)
      · exact .inr (.inr ⟨g1, third _ g2⟩)
  · rw [upd_other _ _ _ huv] at hj
    rcases h u j e' hj he' with g | g | ⟨g1, g2⟩
    · exact .inl g
    · exact .inr (.inl g)
    · exact .inr (.inr ⟨g1, third _ g2⟩)
theorem Seek.more {A : List Arc} {t : Int} {D : Int → Int} {v : Int} {L : List Int} {tr tc : Int → Nat} {e : Nat} (h : Seek A t D v L tr tc) (hv : tc v < (outs A v).length) (he : (outs A v)[tc v]? = some e)
    (hd : Tried A L t D tr → L.getD e 0 = 0 ∨ D (to A e) ≠ D v + 1 ∨ (to A e ≠ t ∧ tc (to A e) = (outs A (to A e)).length)) : Seek A t D v L tr (upd tc v (tc v + 1)) := by
  refine ⟨fun u => ?_, fun u => ?_, fun u hu => ?_, fun hT => tried_more hv he (hd hT) (h.tried hT)⟩
  · by_cases g : u = v
    · subst g; rw [upd_same]; have := h.trlo u; omega
    · rw [upd_other _ _ _ g]; exact h.trlo u
  · by_cases g : u = v
    · subst g; rw [upd_same]; omega
    · rw [upd_other _ _ _ g]; exact h.trhi u
  · have g : u ≠ v := fun g => by subst g; omega
    rw [upd_other _ _ _ g]; exact h.trkeep u hu
/-- An edge that can't be used. -/
theorem Seek.skip {A : List Arc} {t : Int} {D : Int → Int} {v : Int} {L : List Int} {tr tc : Int → Nat} {e : Nat} (h : Seek A t D v L tr tc) (hv : tc v < (outs A v).length) (he : (outs A v)[tc v]? = some e)
    (hd : L.getD e 0 = 0 ∨ D (to A e) ≠ D v + 1) : Seek A t D v L tr (upd tc v (tc v + 1)) :=
  h.more hv he fun _ => by
    rcases hd with g | g
    · exact .inl g
    · exact .inr (.inl g)
/-- A search from the next node that fails. -/
theorem Seek.deep {A : List Arc} {t lim : Int} {D : Int → Int} {v : Int} {L L' : List Int} {tr tc tn : Int → Nat} {e : Nat} (h : Seek A t D v L tr tc) (hv : tc v < (outs A v).length) (he : (outs A v)[tc v]? = some e)
    (hw : D (to A e) = D v + 1) (hp : Push A t D (to A e) lim L tc 0 L' tn) : L' = L ∧ tn v = tc v ∧ Seek A t D v L tr (upd tn v (tn v + 1)) := by
  obtain ⟨hL, hf⟩ := hp.fail rfl
  have hk : tn v = tc v := hp.trkeep v (by omega)
  have hs : Seek A t D v L tr tn :=
    ⟨fun u => Nat.le_trans (h.trlo u) (hp.trlo u), hp.trhi, fun u hu => (hp.trkeep u (by omega)).trans (h.trkeep u hu), fun hT => (hf (h.tried hT)).1⟩
  refine ⟨hL, hk, hs.more (by omega) (by rw [hk]; exact he) fun hT => ?_⟩
  obtain ⟨_, f2, f3⟩ := hf (h.tried hT)
  exact .inr (.inr ⟨f2, f3⟩)
/-- All edges are tried. -/
theorem Seek.done {A : List Arc} {t lim : Int} {D : Int → Int} {v : Int} {L : List Int} {tr tc : Int → Nat} (h : Seek A t D v L tr tc) (hr : Res A L) (hl : 0 < lim) (hvt : v ≠ t) (hv : tc v = (outs A v).length) : Push A t D v lim L tr 0 L tc :=
  ⟨hr, by omega, by omega, fun u => by simp [ind], fun _ _ _ => rfl, h.trlo, h.trhi, h.trkeep, fun _ => ⟨rfl, fun hT => ⟨h.tried hT, hvt, hv⟩⟩⟩
/-- A search from the next node that succeeds. -/
theorem Seek.hit {A : List Arc} {t lim : Int} {D : Int → Int} {v got : Int} {L L' : List Int} {tr tc tn : Int → Nat} {e : Nat} (h : Seek A t D v L tr tc) (he : (outs A v)[tc v]? = some e)
    (hw : D (to A e) = D v + 1) (hg : 0 < got) (hp : Push A t D (to A e) (min lim (L.getD e 0)) L tc got L' tn) :
    L'.getD e 0 = L.getD e 0 ∧ Push A t D v lim L tr got (push1 L' e got) tn := by
  have hm := mem_outs.1 (List.mem_of_getElem? he)
  obtain ⟨h1, rfl⟩ := hm
  have hk : L'.getD e 0 = L.getD e 0 := hp.keep e h1 (by omega)
  have hle := hp.hi
  obtain ⟨r1, r2⟩ := res_push hp.res h1 (by omega) (show got ≤ L'.getD e 0 by rw [hk]; omega)
  refine ⟨hk, r1, by omega, by omega, fun u => ?_, fun k hk1 hk2 => ?_, fun u => Nat.le_trans (h.trlo u) (hp.trlo u), hp.trhi, fun u hu => (hp.trkeep u (by omega)).trans (h.trkeep u hu), fun h0 => by omega⟩
  · rw [r2 u, hp.exc u]; omega
  · have n1 : k ≠ e := fun g => by subst g; omega
    have n2 : k ≠ mate e := fun g => by
      subst g; rw [(fr_mate A e).1] at hk2; omega
    rw [push1_other _ _ _ _ n1 n2]
    exact hp.keep k hk1 (by omega)
end Go.Proofs.Ytphebdmdbnpokaa.FM
