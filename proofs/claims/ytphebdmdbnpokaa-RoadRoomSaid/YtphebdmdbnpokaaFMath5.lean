/- Plain laws of the search by levels: what holds of the distances and the queue after each step. -/
import Derived.Test.YtphebdmdbnpokaaFMath4
set_option linter.unusedSimpArgs false
set_option linter.unusedVariables false
namespace Go.Proofs.Ytphebdmdbnpokaa.FM

def updI (D : Int → Int) (v x : Int) : Int → Int := fun u => if u = v then x else D u
theorem updI_same (D : Int → Int) (v x : Int) : updI D v x v = x := by simp [updI]
theorem updI_other (D : Int → Int) (v x : Int) {u : Int} (h : u ≠ v) : updI D v x u = D u := by simp [updI, h]
/-- How many nodes are reached. -/
def cnt (n : Nat) (D : Int → Int) : Int := sumN n (fun v => decide (0 ≤ D v)) (fun _ => 1)
theorem cnt_le (n : Nat) (D : Int → Int) : 0 ≤ cnt n D ∧ cnt n D ≤ n := by
  unfold cnt
  induction n with
  | zero => simp [sumN]
  | succ n ih =>
    simp only [sumN]
    have : 0 ≤ ind (decide (0 ≤ D n)) 1 ∧ ind (decide (0 ≤ D n)) 1 ≤ 1 := by unfold ind; split <;> omega
    omega
theorem cnt_upd (n : Nat) (D : Int → Int) (w x : Int) (h0 : 0 ≤ w) (h1 : w < n) (hD : D w < 0) (hx : 0 ≤ x) : cnt n (updI D w x) = cnt n D + 1 := by
  have key : ∀ k : Nat, sumN k (fun v => decide (0 ≤ updI D w x v)) (fun _ => 1) = sumN k (fun v => decide (0 ≤ D v)) (fun _ => 1) + (if w < k then 1 else 0) := by
    intro k
    induction k with
    | zero => rw [if_neg (by omega)]; rfl
    | succ k ih =>
      simp only [sumN, ih]
      by_cases g : w = k
      · subst g
        rw [updI_same, if_neg (by omega), if_pos (by omega), decide_eq_true hx, decide_eq_false (by omega : ¬ 0 ≤ D k)]
        simp [ind]
      · rw [updI_other _ _ _ (fun e => g e.symm)]
        by_cases g2 : w < (k : Int)
        · rw [if_pos g2, if_pos (by omega)]; omega
        · rw [if_neg g2, if_neg (by omega)]; omega
  have := key n
  rw [if_pos h1] at this
  exact this

theorem cnt_none (n : Nat) : cnt n (fun _ => -1) = 0 := by
  unfold cnt
  induction n with
  | zero => rfl
  | succ n ih => simp only [sumN, ih]; simp [ind]

/-- What holds of the distances all the time. -/
structure Lev (n : Nat) (A : List Arc) (L : List Int) (s : Int) (D : Int → Int) : Prop where
  src : D s = 0
  zero : ∀ v, D v = 0 → v = s
  lo : ∀ v, -1 ≤ D v
  rng : ∀ v, 0 ≤ D v → 0 ≤ v ∧ v < n
  hi : ∀ v, D v < cnt n D
  par : ∀ v, 0 < D v → ∃ e, e < 2 * A.length ∧ 0 < L.getD e 0 ∧ to A e = v ∧ D (fr A e) = D v - 1
/-- Between two nodes of the queue. -/
structure BfsO (n : Nat) (A : List Arc) (L : List Int) (s : Int) (D : Int → Int) (Q : List Int) : Prop where
  lev : Lev n A L s D
  q : ∀ u ∈ Q, 0 ≤ D u
  nd : Q.Nodup
  sorted : Q.Pairwise (fun a b => D a ≤ D b)
  span : ∀ v r, Q = v :: r → ∀ u, D u ≤ D v + 1
  proc : ∀ u, 0 ≤ D u → u ∉ Q → ∀ e, e < 2 * A.length → fr A e = u → 0 < L.getD e 0 → 0 ≤ D (to A e) ∧ D (to A e) ≤ D u + 1
/-- While the edges from v are looked at: k of them have been. -/
structure BfsI (n : Nat) (A : List Arc) (L : List Int) (s : Int) (D : Int → Int) (v : Int) (Q : List Int) (k : Nat) : Prop where
  lev : Lev n A L s D
  cur : 0 ≤ D v
  q : ∀ u ∈ Q, 0 ≤ D u ∧ D v ≤ D u
  nd : (v :: Q).Nodup
  sorted : Q.Pairwise (fun a b => D a ≤ D b)
  span : ∀ u, D u ≤ D v + 1
  proc : ∀ u, 0 ≤ D u → u ≠ v → u ∉ Q → ∀ e, e < 2 * A.length → fr A e = u → 0 < L.getD e 0 → 0 ≤ D (to A e) ∧ D (to A e) ≤ D u + 1
  seen : ∀ j e, j < k → (outs A v)[j]? = some e → 0 < L.getD e 0 → 0 ≤ D (to A e) ∧ D (to A e) ≤ D v + 1

theorem BfsO.begin {n : Nat} {A : List Arc} {L : List Int} {s : Int} (h0 : 0 ≤ s) (h1 : s < n) : BfsO n A L s (updI (fun _ => -1) s 0) [s] := by
  have hc : cnt n (updI (fun _ => -1) s 0) = 1 := by
    rw [cnt_upd n _ s 0 h0 h1 (by omega) (by omega)]
    have := cnt_none n
    omega
  have hd : ∀ u, u ≠ s → updI (fun _ => -1) s 0 u = -1 := fun u hu => updI_other _ _ _ hu
  have hs := updI_same (fun _ => -1) s 0
  refine ⟨⟨hs, fun v hv => ?_, fun v => ?_, fun v hv => ?_, fun v => ?_, fun v hv => ?_⟩, fun u hu => ?_, by simp, by simp, fun v r e u => ?_, fun u hu hn => ?_⟩
  · by_cases g : v = s
    · exact g
    · rw [hd v g] at hv; omega
  · by_cases g : v = s
    · rw [g, hs]; omega
    · rw [hd v g]; omega
  · by_cases g : v = s
    · subst g; exact ⟨h0, h1⟩
    · rw [hd v g] at hv; omega
  · rw [hc]
    by_cases g : v = s
    · rw [g, hs]; omega
    · rw [hd v g]; omega
  · by_cases g : v = s
    · rw [g, hs] at hv; omega
    · rw [hd v g] at hv; omega
  · obtain rfl : u = s := by simpa using hu
    rw [hs]; omega
  · obtain ⟨rfl, _⟩ : s = v ∧ [] = r := by simpa using e
    rw [hs]
    by_cases g : u = s
    · rw [g, hs]; omega
    · rw [hd u g]; omega
  · by_cases g : u = s
    · subst g; simp at hn
    · rw [hd u g] at hu; omega
theorem BfsO.pop {n : Nat} {A : List Arc} {L : List Int} {s : Int} {D : Int → Int} {v : Int} {Q : List Int} (h : BfsO n A L s D (v :: Q)) : BfsI n A L s D v Q 0 := by
  have hp := List.pairwise_cons.1 h.sorted
  refine ⟨h.lev, h.q v List.mem_cons_self, fun u hu => ⟨h.q u (List.mem_cons_of_mem _ hu), hp.1 u hu⟩, h.nd, hp.2, h.span v Q rfl, fun u hu hv hn => h.proc u hu (by simp [hv, hn]), fun j e hj => by omega⟩
theorem BfsI.pass {n : Nat} {A : List Arc} {L : List Int} {s : Int} {D : Int → Int} {v : Int} {Q : List Int} {k e : Nat} (h : BfsI n A L s D v Q k) (he : (outs A v)[k]? = some e) (hd : L.getD e 0 ≤ 0 ∨ 0 ≤ D (to A e)) : BfsI n A L s D v Q (k + 1) := by
  refine ⟨h.lev, h.cur, h.q, h.nd, h.sorted, h.span, h.proc, fun j e' hj hj' hx => ?_⟩
  by_cases g : j < k
  · exact h.seen j e' g hj' hx
  · obtain rfl : j = k := by omega
    rw [he] at hj'
    obtain rfl := Option.some.inj hj'
    rcases hd with g | g
    · omega
    · exact ⟨g, h.span _⟩
theorem BfsI.visit {n : Nat} {A : List Arc} {L : List Int} {s : Int} {D : Int → Int} {v : Int} {Q : List Int} {k e : Nat} (hA : inN n A) (h : BfsI n A L s D v Q k) (he : (outs A v)[k]? = some e) (hx : 0 < L.getD e 0) (hd : D (to A e) < 0) :
    BfsI n A L s (updI D (to A e) (D v + 1)) v (Q ++ [to A e]) (k + 1) := by
  obtain ⟨he1, he2⟩ := mem_outs.1 (List.mem_of_getElem? he)
  obtain ⟨i1, i2, i3, i4⟩ := inN_ends hA e he1
  have hcur := h.cur
  have hsame := updI_same D (to A e) (D v + 1)
  have hoth : ∀ u, u ≠ to A e → updI D (to A e) (D v + 1) u = D u := fun u hu => updI_other _ _ _ hu
  have hne : ∀ u, 0 ≤ D u → u ≠ to A e := fun u hu g => by subst g; omega
  have hv := hoth v (hne v hcur)
  have hge : ∀ u, D u ≤ updI D (to A e) (D v + 1) u := by
    intro u
    by_cases g : u = to A e
    · rw [g, hsame]; omega
    · rw [hoth u g]; omega
  have hc := cnt_upd n D (to A e) (D v + 1) i3 i4 hd (by omega)
  have hsp : ∀ u, updI D (to A e) (D v + 1) u ≤ D v + 1 := by
    intro u
    by_cases g : u = to A e
    · rw [g, hsame]; omega
    · rw [hoth u g]; exact h.span u
  refine ⟨⟨?_, fun u hu => ?_, fun u => ?_, fun u hu => ?_, fun u => ?_, fun u hu => ?_⟩, by rw [hv]; exact hcur, fun u hu => ?_, ?_, ?_, fun u => by rw [hv]; exact hsp u, fun u hu h1 h2 e' he' hf hx' => ?_, fun j e' hj hj' hx' => ?_⟩
  · rw [hoth s (hne s (by have := h.lev.src; omega))]; exact h.lev.src
  · by_cases g : u = to A e
    · rw [g, hsame] at hu; omega
    · rw [hoth u g] at hu; exact h.lev.zero u hu
  · have := h.lev.lo u; have := hge u; omega
  · by_cases g : u = to A e
    · subst g; exact ⟨i3, i4⟩
    · rw [hoth u g] at hu; exact h.lev.rng u hu
  · rw [hc]
    by_cases g : u = to A e
    · rw [g, hsame]; have := h.lev.hi v; omega
    · rw [hoth u g]; have := h.lev.hi u; omega
  · by_cases g : u = to A e
    · subst g
      refine ⟨e, he1, hx, rfl, ?_⟩
      rw [hsame, he2, hv]; omega
    · rw [hoth u g] at hu ⊢
      obtain ⟨e', k1, k2, k3, k4⟩ := h.lev.par u hu
      exact ⟨e', k1, k2, k3, by rw [hoth _ (hne _ (by omega))]; exact k4⟩
  · rcases List.mem_append.1 hu with g | g
    · have := h.q u g; rw [hoth u (hne u this.1), hv]; exact this
    · obtain rfl : u = to A e := by simpa using g
      rw [hsame, hv]; omega
  · have nd := h.nd
    rw [List.nodup_cons] at nd ⊢
    refine ⟨?_, ?_⟩
    · simp only [List.mem_append, List.mem_singleton, not_or]
      exact ⟨nd.1, hne v hcur⟩
    · rw [List.nodup_append]
      refine ⟨nd.2, by simp, fun a ha b hb => ?_⟩
      obtain rfl : b = to A e := by simpa using hb
      exact hne a (h.q a ha).1
  · rw [List.pairwise_append]
    refine ⟨?_, by simp, fun a ha b hb => ?_⟩
    · refine h.sorted.imp_of_mem fun {a b} ha hb hab => ?_
      rw [hoth a (hne a (h.q a ha).1), hoth b (hne b (h.q b hb).1)]; exact hab
    · obtain rfl : b = to A e := by simpa using hb
      rw [hsame]; exact hsp a
  · have hnq : u ∉ Q := fun g => h2 (List.mem_append_left _ g)
    have hnw : u ≠ to A e := fun g => h2 (by simp [g])
    rw [hoth u hnw] at hu ⊢
    obtain ⟨a, b⟩ := h.proc u hu h1 hnq e' he' hf hx'
    rw [hoth _ (hne _ a)]; exact ⟨a, b⟩
  · rw [hv]
    by_cases g : j < k
    · obtain ⟨a, b⟩ := h.seen j e' g hj' hx'
      rw [hoth _ (hne _ a)]; exact ⟨a, b⟩
    · obtain rfl : j = k := by omega
      rw [he] at hj'
      obtain rfl := Option.some.inj hj'
      rw [hsame]; omega
theorem BfsI.finish {n : Nat} {A : List Arc} {L : List Int} {s : Int} {D : Int → Int} {v : Int} {Q : List Int} {k : Nat} (h : BfsI n A L s D v Q k) (hk : (outs A v).length ≤ k) : BfsO n A L s D Q := by
  refine ⟨h.lev, fun u hu => (h.q u hu).1, (List.nodup_cons.1 h.nd).2, h.sorted, fun w r e u => ?_, fun u hu hn e he hf hx => ?_⟩
  · have := h.span u
    have := (h.q w (by rw [e]; exact List.mem_cons_self)).2
    omega
  · by_cases g : u = v
    · subst g
      have hm : e ∈ outs A u := mem_outs.2 ⟨he, hf⟩
      obtain ⟨j, hj, hje⟩ := List.getElem_of_mem hm
      exact h.seen j e (by omega) (by rw [List.getElem?_eq_getElem hj, hje]) hx
    · exact h.proc u hu g hn e he hf hx
theorem BfsO.dist {n : Nat} {A : List Arc} {L : List Int} {s : Int} {D : Int → Int} (h : BfsO n A L s D []) : Dist n A L s D := by
  have hc := (cnt_le n D).2
  refine ⟨h.lev.src, fun v _ _ hv => h.lev.zero v hv, fun v _ _ => h.lev.lo v, fun v _ _ => by have := h.lev.hi v; omega, fun e he hd hx => h.proc _ hd (by simp) e he rfl hx, fun v _ _ hv => h.lev.par v hv⟩
end Go.Proofs.Ytphebdmdbnpokaa.FM
