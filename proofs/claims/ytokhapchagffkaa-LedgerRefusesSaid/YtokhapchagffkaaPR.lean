/- Plain laws behind LedgerRefuses. -/
import Derived.Test.YtokhapchagffkaaPL
set_option linter.unusedSimpArgs false
set_option linter.unusedVariables false
namespace Go.Proofs.Ytokhapchagffkaa.LG

theorem litS_set : ∀ {p : List Et} {m : Nat} {r : Et} (x : Et), p[m]? = some r → litS (p.set m x) = litS p - r.litres + x.litres
  | [], _, _, _, h => by simp at h
  | e :: p, 0, r, x, h => by
    obtain rfl : e = r := by simpa using h
    rw [List.set_cons_zero, litS_cons, litS_cons]; omega
  | e :: p, m + 1, r, x, h => by
    have ih := litS_set x (p := p) (m := m) (r := r) (by simpa using h)
    rw [List.set_cons_succ, litS_cons, litS_cons, ih]; omega
theorem litS_cut {p : List Et} {m : Nat} {r : Et} (h : p[m]? = some r) : litS (p.take m ++ p.drop (m + 1)) = litS p - r.litres := by
  have h1 : litS p = litS (p.take m) + litS (p.drop m) := by rw [← litS_append, List.take_append_drop]
  obtain ⟨hm, e⟩ := List.getElem?_eq_some_iff.1 h
  rw [List.drop_eq_getElem_cons hm, litS_cons, e] at h1
  rw [litS_append, h1]; omega
def addV (d : Int) (r : Et) : Et := { r with litres := r.litres + d }
def addD (r : Et) : Et := { r with day := r.day + 1 }
def decK (r : Et) : Et := { r with known := r.known - 1 }
/-- Another volume anywhere: refused. -/
theorem one_no {p : List Et} (hp : postB p = true) {m : Nat} {r : Et} (h : p[m]? = some r) {d : Int} (hd : d ≠ 0) : postB (p.set m (addV d r)) = false := by
  cases hq : postB (p.set m (addV d r))
  · rfl
  · have h1 := (postB_parts hq).2.2
    have h2 := (postB_parts hp).2.2
    rw [litS_set _ h, h2] at h1
    have : (addV d r).litres = r.litres + d := rfl
    omega
theorem cut_mem {p : List Et} {m : Nat} {e : Et} (h : e ∈ p.take m ++ p.drop (m + 1)) : e ∈ p := by
  rcases List.mem_append.1 h with h | h
  · exact List.mem_of_mem_take h
  · exact List.mem_of_mem_drop h
theorem absS_cut {p : List Et} {m : Nat} (hm : m < p.length) : absS (p.take m ++ p.drop (m + 1)) ≤ absS p := by
  have h1 : absS p = absS (p.take m) + absS (p.drop m) := by rw [← LG.absS_append, List.take_append_drop]
  rw [List.drop_eq_getElem_cons hm, LG.absS_cons] at h1
  have := absI_nn (p[m]).litres
  rw [LG.absS_append, h1]; omega
theorem head_of {p : List Et} (hp : postB p = true) {q : List Et} (hq : q ≠ []) (hs : ∀ e ∈ q, e ∈ p) : (q.headD default).known = (p.headD default).known ∧ (q.headD default).day = (p.headD default).day := by
  have hh : q.headD default ∈ q := by
    cases q with
    | nil => exact absurd rfl hq
    | cons x q => exact List.mem_cons_self ..
  have := (postB_parts hp).2.1 _ (hs _ hh)
  exact ⟨this.2.2, this.2.1⟩
/-- One entry less: refused if it is of a volume or the only one, else posted. -/
theorem two_yes {l p : List Et} {m : Nat} {r : Et} (h : p[m]? = some r) (hp : postB p = true) (hor : r.litres ≠ 0 ∨ p.length = 1) : (postR l (p.take m ++ p.drop (m + 1))).2 = 1 := by
  refine postR_arg1 ?_
  cases hq : postB (p.take m ++ p.drop (m + 1))
  · rfl
  · obtain ⟨h1, _, h3⟩ := postB_parts hq
    rw [litS_cut h, (postB_parts hp).2.2] at h3
    have hm := (List.getElem?_eq_some_iff.1 h).1
    rcases hor with h4 | h4
    · omega
    · exfalso
      apply h1
      apply List.eq_nil_of_length_eq_zero
      rw [List.length_append, List.length_take, List.length_drop]; omega
theorem two_no {l p : List Et} {m : Nat} {r : Et} (h : p[m]? = some r) (hp : postB p = true) (hl : lateB l p = false) (hf : fullB l p = false) (h0 : r.litres = 0) (hn : p.length ≠ 1) : (postR l (p.take m ++ p.drop (m + 1))).2 = 0 := by
  have hm := (List.getElem?_eq_some_iff.1 h).1
  have hne : p.take m ++ p.drop (m + 1) ≠ [] := fun g => by
    have := congrArg List.length g
    rw [List.length_append, List.length_take, List.length_drop, List.length_nil] at this
    omega
  obtain ⟨h1, h2, h3⟩ := postB_parts hp
  have hb : postB (p.take m ++ p.drop (m + 1)) = true := postB_of hne (fun e he => h2 e (cut_mem he)) (by rw [litS_cut h, h3, h0]; rfl)
  have hl2 : lateB l (p.take m ++ p.drop (m + 1)) = false := by
    unfold lateB at hl ⊢
    rw [(head_of hp hne (fun e he => cut_mem he)).1]
    exact hl
  have hf2 : fullB l (p.take m ++ p.drop (m + 1)) = false := by
    unfold fullB at hf ⊢
    rw [decide_eq_false_iff_not] at hf ⊢
    have := absS_cut hm
    omega
  unfold postR
  rw [hb, hl2, hf2]; rfl
/-- Another day: refused unless it is the only one. -/
theorem three_no {p : List Et} (hp : postB p = true) {m : Nat} {r : Et} (h : p[m]? = some r) (hn : p.length ≠ 1) : postB (p.set m (addD r)) = false := by
  cases hq : postB (p.set m (addD r))
  · rfl
  · exfalso
    obtain ⟨_, g2, _⟩ := postB_parts hq
    obtain ⟨_, h2, _⟩ := postB_parts hp
    have hm := (List.getElem?_eq_some_iff.1 h).1
    obtain ⟨j, hj, hjm⟩ : ∃ j, j < p.length ∧ j ≠ m := by
      by_cases c : m = 0
      · exact ⟨1, by omega, by omega⟩
      · exact ⟨0, by omega, by omega⟩
    obtain ⟨s, hs⟩ : ∃ s, p[j]? = some s := ⟨_, List.getElem?_eq_getElem hj⟩
    have e1 : (p.set m (addD r))[m]? = some (addD r) := by rw [List.getElem?_set_self hm]
    have e2 : (p.set m (addD r))[j]? = some s := by rw [List.getElem?_set_ne (fun g => hjm g.symm)]; exact hs
    have a1 := (g2 _ (List.mem_of_getElem? e1)).2.1
    have a2 := (g2 _ (List.mem_of_getElem? e2)).2.1
    have a3 := (h2 _ (List.mem_of_getElem? h)).2.1
    have a4 := (h2 _ (List.mem_of_getElem? hs)).2.1
    have : (addD r).day = r.day + 1 := rfl
    omega
theorem litS_dec (p : List Et) : litS (p.map decK) = litS p := by
  induction p with
  | nil => rfl
  | cons e p ih => rw [List.map_cons, litS_cons, litS_cons, ih]; rfl
/-- An hour too early: refused as late. -/
theorem four_late {l p : List Et} (hp : postB p = true) (hl : l ≠ []) (h0 : 0 ≤ (p.headD default).known - 1) (hk : (p.headD default).known - 1 < (l.getLastD default).known) : (postR l (p.map decK)).2 = 15 := by
  obtain ⟨h1, h2, h3⟩ := postB_parts hp
  have hb : postB (p.map decK) = true := by
    refine postB_of (a := (p.headD default).day) (b := (p.headD default).known - 1) (by simpa using h1) (fun e he => ?_) (by rw [litS_dec, h3])
    obtain ⟨x, hx, rfl⟩ := List.mem_map.1 he
    obtain ⟨a1, a2, a3⟩ := h2 x hx
    refine ⟨?_, a2, by show x.known - 1 = _; rw [a3]⟩
    have b := a1
    unfold okE wit at b ⊢
    simp only [Bool.and_eq_true, decide_eq_true_eq] at b ⊢
    unfold decK
    simp only
    omega
  have hh : ((p.map decK).headD default).known = (p.headD default).known - 1 := by
    cases p with
    | nil => exact absurd rfl h1
    | cons x p => rfl
  have hlt : lateB l (p.map decK) = true := by
    unfold lateB
    rw [hh, decide_eq_true hk]
    cases l with
    | nil => exact absurd rfl hl
    | cons _ _ => rfl
  unfold postR
  rw [hb, hlt]; rfl
/-- So far every hour is one less. -/
def decT (p : List Et) (k : Nat) : List Et := (p.take k).map decK ++ p.drop k
theorem decT_zero (p : List Et) : decT p 0 = p := rfl
theorem decT_end (p : List Et) : decT p p.length = p.map decK := by unfold decT; rw [List.take_length, List.drop_length, List.append_nil]
theorem decT_len (p : List Et) (k : Nat) : (decT p k).length = p.length := by unfold decT; simp; omega
theorem decT_at {p : List Et} {k : Nat} {r : Et} (h : p[k]? = some r) : (decT p k)[k]? = some r := by
  have hk := (List.getElem?_eq_some_iff.1 h).1
  unfold decT
  rw [List.getElem?_append_right (by simp; omega)]
  simp
  rw [show k + (k - min k p.length) = k by omega]
  exact h
theorem decT_succ {p : List Et} {k : Nat} {r : Et} (h : p[k]? = some r) : decT p (k + 1) = (decT p k).set k (decK r) := by
  obtain ⟨hk, e⟩ := List.getElem?_eq_some_iff.1 h
  unfold decT
  have hl : ((p.take k).map decK).length = k := by simp; omega
  rw [List.take_add_one, h, List.drop_eq_getElem_cons hk, e, List.set_append_right _ _ (by omega), hl, Nat.sub_self, List.set_cons_zero]
  simp
end Go.Proofs.Ytokhapchagffkaa.LG
