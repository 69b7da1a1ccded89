/- Joined of: YMath. -/
import Derived.Test.YtphebdmdbnpokaaG04
/- Plain laws of the reference's search: an edge to each node that is reached, ranks that fall along them; what an augmentation along them does. -/
set_option linter.unusedSimpArgs false
set_option linter.unusedVariables false
namespace Go.Proofs.Ytphebdmdbnpokaa.FM

theorem nodup_len : ∀ (n : Nat) (q : List Int), q.Nodup → (∀ v ∈ q, 0 ≤ v ∧ v < n) → q.length ≤ n
  | 0, q, _, h => by
    cases q with
    | nil => simp
    | cons v q => have := h v List.mem_cons_self; omega
  | n + 1, q, hn, h => by
    by_cases hm : (n : Int) ∈ q
    · have ih := nodup_len n (q.erase n) (List.Nodup.erase _ hn) (fun v hv => by
        have h1 := (hn.mem_erase_iff).1 hv
        have := h v h1.2
        have := h1.1
        omega)
      rw [List.length_erase_of_mem hm] at ih
      omega
    · have ih := nodup_len n q hn (fun v hv => by
        have := h v hv
        have : v ≠ n := fun e => hm (e ▸ hv)
        omega)
      omega
theorem fr_two {A : List Arc} {i : Nat} {a : Arc} (h : A[i]? = some a) : fr A (2 * i) = a.1 ∧ to A (2 * i) = a.2.1 ∧ fr A (2 * i + 1) = a.2.1 ∧ to A (2 * i + 1) = a.1 := by
  have e1 : 2 * i / 2 = i := by omega
  have e2 : (2 * i + 1) / 2 = i := by omega
  have e3 : 2 * i % 2 = 0 := by omega
  have e4 : (2 * i + 1) % 2 = 1 := by omega
  simp [fr, to, e1, e2, e3, e4, List.getD_eq_getElem?_getD, h]
theorem res_two : ∀ {A : List Arc} {L : List Int} {i : Nat} {a : Arc}, Res A L → A[i]? = some a → L.getD (2 * i) 0 + L.getD (2 * i + 1) 0 = a.2.2
  | b :: A, x :: y :: L, 0, a, h, ha => by
    obtain rfl : b = a := by simpa using ha
    exact h.2.2.1
  | b :: A, x :: y :: L, i + 1, a, h, ha => by
    have := res_two (i := i) (a := a) h.2.2.2 (by simpa using ha)
    rw [show 2 * (i + 1) = 2 * i + 1 + 1 by omega]
    exact this
  | [], _, i, a, _, ha => by simp at ha
  | _ :: _, [], _, _, h, _ => by simp [Res] at h
  | _ :: _, [_], _, _, h, _ => by simp [Res] at h
/-- The same under a name that no tactic's word takes. -/
def toE (A : List Arc) (e : Nat) : Int := to A e
/-- What is left of the edges beside a flow. -/
def resOf : List Arc → List Int → List Int
  | a :: A, x :: f => (a.2.2 - x) :: x :: resOf A f
  | _, _ => []
/-- The queue q of the nodes that are reached, each with the edge by which it is (by); the first k of them are done, but for the one at k, of whose arcs m are done. -/
structure Rch (n : Nat) (A : List Arc) (L : List Int) (s : Int) (by_ : Int → Int) (q : List Int) : Prop where
  nd : q.Nodup
  head : q[0]? = some s
  src : by_ s = -1
  rng : ∀ v ∈ q, 0 ≤ v ∧ v < n
  iff : ∀ v : Int, 0 ≤ v → v < n → (by_ v ≠ -2 ↔ v ∈ q)
  par : ∀ (j : Nat) v, 0 < j → q[j]? = some v → ∃ e : Nat, by_ v = e ∧ e < 2 * A.length ∧ to A e = v ∧ 0 < L.getD e 0 ∧ ∃ i u, i < j ∧ q[i]? = some u ∧ fr A e = u
theorem Rch.lo {n : Nat} {A : List Arc} {L : List Int} {s : Int} {by_ : Int → Int} {q : List Int} (h : Rch n A L s by_ q) {v : Int} (hv : v ∈ q) : -1 ≤ by_ v := by
  obtain ⟨j, hj, rfl⟩ := List.getElem_of_mem hv
  rcases Nat.eq_zero_or_pos j with g | g
  · subst g
    have := h.head
    rw [List.getElem?_eq_getElem hj] at this
    rw [Option.some.inj this, h.src]; omega
  · obtain ⟨e, he, _⟩ := h.par j _ g (List.getElem?_eq_getElem hj)
    rw [he]; omega
theorem Rch.begin {n : Nat} {A : List Arc} {L : List Int} {s : Int} (h0 : 0 ≤ s) (h1 : s < n) : Rch n A L s (updI (fun _ => -2) s (-1)) [s] := by
  refine ⟨by simp, rfl, updI_same _ _ _, fun v hv => ?_, fun v _ _ => ?_, fun j v hj hv => ?_⟩
  · obtain rfl : v = s := by simpa using hv
    exact ⟨h0, h1⟩
  · by_cases g : v = s
    · subst g; rw [updI_same]; simp
    · rw [updI_other _ _ _ g]; simp [g]
  · have := (List.getElem?_eq_some_iff.1 hv).1
    simp at this; omega
/-- One more node. -/
theorem Rch.add {n : Nat} {A : List Arc} {L : List Int} {s : Int} {by_ : Int → Int} {q : List Int} {e k : Nat} {v : Int} (h : Rch n A L s by_ q) (he : e < 2 * A.length) (hx : 0 < L.getD e 0) (hA : inN n A) (hk : q[k]? = some v) (hf : fr A e = v) (hn : by_ (to A e) = -2) :
    Rch n A L s (updI by_ (to A e) e) (q ++ [to A e]) := by
  obtain ⟨i1, i2, i3, i4⟩ := inN_ends hA e he
  have hnq : to A e ∉ q := fun g => (h.iff _ i3 i4).2 g hn
  have hoth : ∀ u ∈ q, updI by_ (to A e) e u = by_ u := fun u hu => updI_other _ _ _ (fun g => hnq (g ▸ hu))
  have hkl := (List.getElem?_eq_some_iff.1 hk).1
  have hs : s ∈ q := List.mem_of_getElem? h.head
  refine ⟨?_, ?_, by rw [hoth s hs]; exact h.src, fun u hu => ?_, fun u h0 h1 => ?_, fun j u hj hu => ?_⟩
  · rw [List.nodup_append]
    refine ⟨h.nd, by simp, fun a ha b hb => ?_⟩
    obtain rfl : b = to A e := by simpa using hb
    exact fun g => hnq (g ▸ ha)
  · rw [List.getElem?_append_left (by omega)]; exact h.head
  · rcases List.mem_append.1 hu with g | g
    · exact h.rng u g
    · obtain rfl : u = to A e := by simpa using g
      exact ⟨i3, i4⟩
  · by_cases g : u = to A e
    · subst g; rw [updI_same]; simp
    · rw [updI_other _ _ _ g, h.iff u h0 h1]; simp [g]
  · by_cases g : j < q.length
    · rw [List.getElem?_append_left g] at hu
      obtain ⟨e', h1, h2, h3, h4, i, u', h5, h6, h7⟩ := h.par j u hj hu
      refine ⟨e', by rw [hoth u (List.mem_of_getElem? hu)]; exact h1, h2, h3, h4, i, u', h5, ?_, h7⟩
      rw [List.getElem?_append_left (by omega)]; exact h6
    · have hjl := (List.getElem?_eq_some_iff.1 hu).1
      have hj' : j = q.length := by simp at hjl; omega
      subst hj'
      obtain rfl : to A e = u := by simpa using hu
      refine ⟨e, updI_same _ _ _, he, rfl, hx, k, v, hkl, ?_, hf⟩
      rw [List.getElem?_append_left (by omega)]; exact hk
/-- All edges from the nodes before k have been looked at, and those of the first i arcs from the one at k. -/
def Done (A : List Arc) (L : List Int) (by_ : Int → Int) (q : List Int) (k i : Nat) : Prop := ∀ (j : Nat) v e, q[j]? = some v → e < 2 * A.length → fr A e = v → 0 < L.getD e 0 → (j < k ∨ (j = k ∧ e / 2 < i)) → by_ (to A e) ≠ -2
theorem Done.begin (A : List Arc) (L : List Int) (by_ : Int → Int) (q : List Int) : Done A L by_ q 0 0 := fun j v e _ _ _ _ h => by omega
theorem Done.upd {A : List Arc} {L : List Int} {by_ : Int → Int} {q : List Int} {k i : Nat} {u x : Int} (h : Done A L by_ q k i) (hk : k < q.length) (hx : x ≠ -2) : Done A L (updI by_ u x) (q ++ [u]) k i := fun j v e hj he hf hl hor => by
  by_cases g : to A e = u
  · rw [g, updI_same]; exact hx
  · rw [updI_other _ _ _ g]
    have : j < q.length := by omega
    rw [List.getElem?_append_left this] at hj
    exact h j v e hj he hf hl hor
/-- The arc i is done, where neither of its edges leads further. -/
theorem Done.next {A : List Arc} {L : List Int} {by_ : Int → Int} {q : List Int} {k i : Nat} {v : Int} (h : Done A L by_ q k i) (hk : q[k]? = some v)
    (h0 : fr A (2 * i) = v → 0 < L.getD (2 * i) 0 → by_ (to A (2 * i)) ≠ -2) (h1 : fr A (2 * i + 1) = v → 0 < L.getD (2 * i + 1) 0 → by_ (to A (2 * i + 1)) ≠ -2) : Done A L by_ q k (i + 1) := fun j u e hj he hf hl hor => by
  by_cases g : j < k ∨ (j = k ∧ e / 2 < i)
  · exact h j u e hj he hf hl g
  · obtain ⟨rfl, hi⟩ : j = k ∧ e / 2 = i := by omega
    rw [hk] at hj
    obtain rfl := Option.some.inj hj
    rcases Nat.mod_two_eq_zero_or_one e with m | m
    · obtain rfl : e = 2 * i := by omega
      exact h0 hf hl
    · obtain rfl : e = 2 * i + 1 := by omega
      exact h1 hf hl
theorem Done.row {A : List Arc} {L : List Int} {by_ : Int → Int} {q : List Int} {k i : Nat} (h : Done A L by_ q k i) (hi : A.length ≤ i) : Done A L by_ q (k + 1) 0 := fun j u e hj he hf hl hor => h j u e hj he hf hl (by omega)
/-- What the search returns. -/
structure Found1 (n : Nat) (A : List Arc) (L : List Int) (s : Int) (by_ : Int → Int) (q : List Int) : Prop where
  r : Rch n A L s by_ q
  all : ∀ v ∈ q, ∀ e, e < 2 * A.length → fr A e = v → 0 < L.getD e 0 → to A e ∈ q
theorem found_of {n : Nat} {A : List Arc} {L : List Int} {s : Int} {by_ : Int → Int} {q : List Int} {k i : Nat} (hA : inN n A) (h : Rch n A L s by_ q) (d : Done A L by_ q k i) (hk : q.length ≤ k) : Found1 n A L s by_ q :=
  ⟨h, fun v hv e he hf hl => by
    obtain ⟨j, hj, rfl⟩ := List.getElem_of_mem hv
    obtain ⟨i1, i2, i3, i4⟩ := inN_ends hA e he
    exact (h.iff _ i3 i4).1 (d j _ e (List.getElem?_eq_getElem hj) he hf hl (.inl (by omega)))⟩
/-- Where the sink is not reached the flow is a maximum one. -/
theorem max_of_found {n : Nat} {A : List Arc} {L : List Int} {s t : Int} {by_ : Int → Int} {q : List Int} {v : Int} (hA : inN n A) (hr : Res A L) (hk : keeps A (flowOf A L) s t) (hv : exc A (flowOf A L) s = v) (ht0 : 0 ≤ t) (ht1 : t < n)
    (h : Found1 n A L s by_ q) (ht : by_ t = -2) : MaxOf n A s t (flowOf A L) v (fun u => decide (u ∈ q)) := by
  have hs : s ∈ q := List.mem_of_getElem? h.r.head
  refine ⟨hr.feas, hk, hv, decide_eq_true hs, decide_eq_false (fun g => (h.r.iff t ht0 ht1).2 g ht), ?_, fun S hS hc u hu => ?_⟩
  · rw [closed_res _ hr]
    intro e he hs hx
    exact decide_eq_true (h.all _ (of_decide_eq_true hs) e he rfl hx)
  · rw [closed_res _ hr] at hc
    obtain ⟨j, hj, rfl⟩ := List.getElem_of_mem (of_decide_eq_true hu)
    induction j using Nat.strongRecOn with
    | _ j ih =>
      rcases Nat.eq_zero_or_pos j with g | g
      · subst g
        have := h.r.head
        rw [List.getElem?_eq_getElem hj] at this
        rw [Option.some.inj this]; exact hS
      · obtain ⟨e, _, he, hto, hx, i, u, hi, hu, hf⟩ := h.r.par j _ g (List.getElem?_eq_getElem hj)
        have hil := (List.getElem?_eq_some_iff.1 hu).1
        have hS' := ih i hi hil (by exact decide_eq_true (List.getElem_mem hil))
        have : q[i] = u := by rw [List.getElem?_eq_getElem hil] at hu; exact Option.some.inj hu
        rw [this, ← hf] at hS'
        rw [← hto]
        exact hc e he hS' hx

/-- An augmentation that has been carried out from v on to t; rk: the nodes' places in the queue. -/
structure Aug1 (A : List Arc) (q : List Int) (t : Int) (m : Int) (L L' : List Int) (j : Nat) (v : Int) : Prop where
  at_ : q[j]? = some v
  res : Res A L'
  exc : ∀ u, FM.exc A (flowOf A L') u = FM.exc A (flowOf A L) u + ind (v == u) m - ind (t == u) m
  keep : ∀ (i : Nat) u e, i < j → q[i]? = some u → e < 2 * A.length → fr A e = u → L'.getD e 0 = L.getD e 0
theorem Aug1.begin {A : List Arc} {q : List Int} {t m : Int} {L : List Int} {j : Nat} (hr : Res A L) (hj : q[j]? = some t) : Aug1 A q t m L L j t :=
  ⟨hj, hr, fun u => by omega, fun _ _ _ _ _ _ _ => rfl⟩
theorem Aug1.step {n : Nat} {A : List Arc} {q : List Int} {s t m : Int} {by_ : Int → Int} {L L' : List Int} {j e : Nat} {v : Int} (h : Aug1 A q t m L L' j v) (hR : Rch n A L s by_ q) (hj : 0 < j) (hb : by_ v = e) (hm0 : 0 ≤ m) (hm : m ≤ L.getD e 0) :
    ∃ i u, i < j ∧ fr A e = u ∧ e < 2 * A.length ∧ L'.getD e 0 = L.getD e 0 ∧ Aug1 A q t m L (push1 L' e m) i u := by
  obtain ⟨e', h1, h2, h3, h4, i, u, h5, h6, h7⟩ := hR.par j v hj h.at_
  obtain rfl : e = e' := by omega
  have hk := h.keep i u e h5 h6 h2 h7
  obtain ⟨r1, r2⟩ := res_push h.res h2 hm0 (by rw [hk]; exact hm)
  refine ⟨i, u, h5, h7, h2, hk, h6, r1, fun x => ?_, fun i' u' e2 hi' hu' he2 hf2 => ?_⟩
  · rw [r2 x, h.exc x, h7, h3]; omega
  · have hne : ∀ (a b : Nat) (x : Int), q[a]? = some x → q[b]? = some x → a = b := fun a b x ha hb => by
      have la := (List.getElem?_eq_some_iff.1 ha).1
      exact (List.getElem?_inj la hR.nd).1 (ha.trans hb.symm)
    have n1 : e2 ≠ e := fun g => by
      subst g
      rw [h7] at hf2
      subst hf2
      have := hne _ _ _ hu' h6
      omega
    have n2 : e2 ≠ mate e := fun g => by
      subst g
      rw [(fr_mate A e).1, h3] at hf2
      subst hf2
      have := hne _ _ _ hu' h.at_
      omega
    rw [push1_other _ _ _ _ n1 n2]
    exact h.keep i' u' e2 (by omega) hu' he2 hf2
/-- From a node on along the edges by which the nodes are reached each edge takes m more. -/
def Good1 (A : List Arc) (L : List Int) (by_ : Int → Int) (m : Int) : Nat → Int → Prop
  | 0, _ => True
  | f + 1, v => by_ v < 0 ∨ (m ≤ L.getD (by_ v).toNat 0 ∧ Good1 A L by_ m f (fr A (by_ v).toNat))
/-- So far, from t to v. -/
def Sofar (A : List Arc) (L : List Int) (by_ : Int → Int) (t m v : Int) : Prop := ∃ k : Nat, ∀ m', m' ≤ m → ∀ f, Good1 A L by_ m' f v → Good1 A L by_ m' (f + k) t
theorem Sofar.begin (A : List Arc) (L : List Int) (by_ : Int → Int) (t m : Int) : Sofar A L by_ t m t := ⟨0, fun _ _ _ h => h⟩
theorem Sofar.step {A : List Arc} {L : List Int} {by_ : Int → Int} {t m m2 v : Int} {e : Nat} (h : Sofar A L by_ t m v) (hb : by_ v = e) (h1 : m2 ≤ m) (h2 : m2 ≤ L.getD e 0) : Sofar A L by_ t m2 (fr A e) := by
  obtain ⟨k, h⟩ := h
  refine ⟨k + 1, fun m' hm f hg => ?_⟩
  have := h m' (by omega) (f + 1) (.inr ⟨by rw [hb]; simp only [Int.toNat_natCast]; omega, by rw [hb]; exact hg⟩)
  rw [show f + (k + 1) = f + 1 + k by omega]
  exact this
theorem Sofar.all {A : List Arc} {L : List Int} {by_ : Int → Int} {t m v : Int} (h : Sofar A L by_ t m v) (hb : by_ v < 0) : ∀ f, ∃ k, f ≤ k ∧ Good1 A L by_ m k t := fun f => by
  obtain ⟨k, h⟩ := h
  exact ⟨f + k, by omega, h m (Int.le_refl _) f (by cases f with | zero => trivial | succ f => exact .inl hb)⟩
theorem Good1.down {A : List Arc} {L : List Int} {by_ : Int → Int} {m v : Int} {f e : Nat} (h : Good1 A L by_ m (f + 1) v) (hb : by_ v = e) : m ≤ L.getD e 0 ∧ Good1 A L by_ m f (fr A e) := by
  rcases h with h | h
  · rw [hb] at h; omega
  · rw [hb] at h; exact h
theorem Good1.mono {A : List Arc} {L : List Int} {by_ : Int → Int} {m : Int} : ∀ {f k : Nat} {v : Int}, f ≤ k → Good1 A L by_ m k v → Good1 A L by_ m f v
  | 0, _, _, _, _ => trivial
  | f + 1, 0, _, h, _ => by omega
  | f + 1, k + 1, v, hk, h => by
    rcases h with h | h
    · exact .inl h
    · exact .inr ⟨h.1, Good1.mono (by omega) h.2⟩
end Go.Proofs.Ytphebdmdbnpokaa.FM

