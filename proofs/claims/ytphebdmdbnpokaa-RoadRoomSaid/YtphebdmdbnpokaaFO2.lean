/- What is made when all arcs have been laid: the network beside the flow of zeros. -/
import Derived.Test.YtphebdmdbnpokaaFO1
set_option linter.unusedSimpArgs false
set_option linter.unusedVariables false
namespace Go.Proofs.Ytphebdmdbnpokaa.FL
open Go.RowKit FM

def esOf (A : List Arc) : List Value := A.flatMap fun a => [.int .i64 a.2.1, .int .i64 a.2.2, .int .i64 a.1, .int .i64 0]
def L0 (A : List Arc) : List Int := A.flatMap fun a => [a.2.2, 0]
theorem esOf_snoc (A : List Arc) (a : Arc) : esOf (A ++ [a]) = esOf A ++ [.int .i64 a.2.1, .int .i64 a.2.2, .int .i64 a.1, .int .i64 0] := by simp [esOf]
theorem es_get : ∀ (A : List Arc) (e : Nat), e < 2 * A.length → (esOf A)[e * 2]? = some (.int .i64 (to A e)) ∧ (esOf A)[e * 2 + 1]? = some (.int .i64 ((L0 A).getD e 0))
  | [], e, h => by simp at h
  | a :: A, e, h => by
    match e with
    | 0 => exact ⟨rfl, rfl⟩
    | 1 => exact ⟨rfl, rfl⟩
    | e + 2 =>
      obtain ⟨h1, h2⟩ := es_get A e (by simp at h; omega)
      rw [(fr_succ a A e).2]
      refine ⟨?_, ?_⟩
      · rw [show (e + 2) * 2 = e * 2 + 1 + 1 + 1 + 1 by omega]; exact h1
      · rw [show (e + 2) * 2 + 1 = e * 2 + 1 + 1 + 1 + 1 + 1 by omega]; exact h2
theorem L0_len (A : List Arc) : (L0 A).length = 2 * A.length := by
  induction A with
  | nil => rfl
  | cons a A ih => simp [L0] at *; omega
theorem L0_res : ∀ {A : List Arc}, (∀ a ∈ A, 0 ≤ a.2.2) → Res A (L0 A)
  | [], _ => trivial
  | a :: A, h => ⟨h a List.mem_cons_self, Int.le_refl _, by omega, L0_res fun b hb => h b (List.mem_cons_of_mem _ hb)⟩
theorem L0_exc : ∀ (A : List Arc) (v : Int), exc A (flowOf A (L0 A)) v = 0
  | [], v => rfl
  | a :: A, v => by
    show ind (a.1 == v) (a.2.2 - a.2.2) - ind (a.2.1 == v) (a.2.2 - a.2.2) + exc A (flowOf A (L0 A)) v = 0
    rw [L0_exc A v, Int.sub_self]; simp [ind]
theorem L0_fl {A : List Arc} {s t : Int} (h : ∀ a ∈ A, 0 ≤ a.2.2) : Fl A s t (L0 A) 0 := ⟨L0_res h, fun v _ _ => L0_exc A v, L0_exc A s⟩
theorem filter_congr' {l : List Nat} {p q : Nat → Bool} (h : ∀ x ∈ l, p x = q x) : l.filter p = l.filter q := List.filter_congr h
theorem fr_app (A : List Arc) (a : Arc) (e : Nat) (h : e < 2 * A.length) : fr (A ++ [a]) e = fr A e := by
  have : e / 2 < A.length := by omega
  simp [fr, List.getD_eq_getElem?_getD, List.getElem?_append_left this]
theorem fr_last (A : List Arc) (a : Arc) : fr (A ++ [a]) (2 * A.length) = a.1 ∧ fr (A ++ [a]) (2 * A.length + 1) = a.2.1 := by
  have e1 : 2 * A.length / 2 = A.length := by omega
  have e2 : (2 * A.length + 1) / 2 = A.length := by omega
  have e3 : (2 * A.length) % 2 = 0 := by omega
  have e4 : (2 * A.length + 1) % 2 = 1 := by omega
  simp [fr, e1, e2, e3, e4]
theorem outs_snoc (A : List Arc) (a : Arc) (v : Int) : outs (A ++ [a]) v = outs A v ++ (if a.1 = v then [2 * A.length] else []) ++ (if a.2.1 = v then [2 * A.length + 1] else []) := by
  have e : List.range (2 * (A ++ [a]).length) = List.range (2 * A.length) ++ [2 * A.length] ++ [2 * A.length + 1] := by
    rw [show 2 * (A ++ [a]).length = 2 * A.length + 1 + 1 by simp; omega, List.range_succ, List.range_succ]
  obtain ⟨f1, f2⟩ := fr_last A a
  unfold outs
  rw [e, List.filter_append, List.filter_append]
  congr 1
  · congr 1
    · exact List.filter_congr fun x hx => by rw [fr_app A a x (by simpa using hx)]
    · simp [List.filter_cons, f1]
  · simp [List.filter_cons, f2]
theorem outs_add (A : List Arc) (a : Arc) (p q : Nat) (hp : a.1 = p) (hq : a.2.1 = q) (ls : Nat → List Nat) (v : Nat) (h : ls v = outs A v) : addTo (addTo ls p (2 * A.length)) q (2 * A.length + 1) v = outs (A ++ [a]) v := by
  rw [outs_snoc, hp, hq]
  simp only [addTo, h]
  by_cases h1 : v = p <;> by_cases h2 : v = q
  · subst h1; subst h2; simp
  · subst h1; simp [h2]; omega
  · subst h2; simp [h1]; omega
  · simp [h1, h2]; omega
theorem net_of {w : World} {B n X gO gD : Nat} {A : List Arc} {ve : Value} {rv : Nat → Value} {ls : Nat → List Nat} (h : Opn w B n X gO gD ve (2 * A.length) (esOf A) rv ls) (hl : ∀ v, v < n → ls v = outs A v) (hB : B ≤ w.heap.size) :
    ∃ a : NA, a.X = X ∧ Net w B w.heap.size n A a (L0 A) (fun _ => 0) := by
  obtain ⟨l1, l2, l3⟩ := h.lo
  obtain ⟨a1, a2, a3⟩ := h.hi
  obtain ⟨n1, n2, n3⟩ := h.ne
  have mk : ∀ (gE : Nat) (pE : Option Addr) (cE : Nat), ve = .slice pE (2 * A.length) cE → B ≤ gE → (gE ≠ X ∧ gE ≠ gO ∧ gE ≠ gD) → (∀ v, v < n → ∀ b, (rv v).ownBlock = some b → b ≠ gE) →
      (∀ e, e < 2 * A.length → pE = some ⟨gE, 0, none⟩ ∧ gE < w.heap.size ∧ w.cell? ⟨gE, e * 2, none⟩ = some (.int .i64 (to A e)) ∧ w.cell? ⟨gE, e * 2 + 1, none⟩ = some (.int .i64 ((L0 A).getD e 0)) ∧ w.frozen? ⟨gE, e * 2 + 1, none⟩ = false) →
      ∃ a : NA, a.X = X ∧ Net w B w.heap.size n A a (L0 A) (fun _ => 0) := by
    intro gE pE cE hve hb hne hrne hedge
    refine ⟨⟨X, gO, gD, gE, pE, cE, rv⟩, rfl, ⟨l1, l2, l3, hb⟩, ⟨a1, a2, a3⟩, ⟨n2, Ne.symm hne.1, n3, Ne.symm hne.2.1, Ne.symm hne.2.2⟩, by rw [← hve]; exact h.x0.1, h.x1, h.x2, fun v hv => (h.out v hv).1, fun v hv => ?_, h.dist, hedge, L0_len A⟩
    show ∃ ao c, rv v = _ ∧ _
    have hr := h.row v hv
    have hf := h.rfar v hv
    have hg := hrne v hv
    rw [hl v hv] at hr
    obtain ⟨_, ⟨r1, r2⟩ | ⟨g, cap, cur, r1, r2, r3, r4, r5, r6, r7⟩⟩ := hr
    · have hnil : outs A v = [] := List.eq_nil_of_length_eq_zero r2
      exact ⟨none, 0, by rw [r1, hnil]; rfl, fun k e hk => by rw [hnil] at hk; simp at hk⟩
    · rw [r1] at hf hg
      obtain ⟨f1, f2, f3, f4⟩ := hf g rfl
      refine ⟨_, cap, r1, fun k e hk => ⟨g, 0, rfl, r2, ?_, f3, hg g rfl, ?_⟩⟩
      · rcases Nat.lt_or_ge g w.heap.size with q | q
        · exact q
        · rw [Array.getElem?_eq_none q] at r3; cases r3
      · rw [Nat.zero_add, cell_of_row w g k cur 3 (0, 0) r3]
        have hk1 := (List.getElem?_eq_some_iff.1 hk).1
        have : (cur.toList.take ((outs A v).length * 1))[k]? = (intV (outs A v))[k]? := by rw [r7]
        rw [List.getElem?_take_of_lt (by omega)] at this
        simpa [intV, hk] using this
  obtain ⟨_, ⟨r1, r2⟩ | ⟨g, cap, cur, r1, r2, r3, r4, r5, r6, r7⟩⟩ := h.own
  · refine mk w.heap.size none 0 (by rw [r1, r2]) hB ⟨by omega, by omega, by omega⟩ (fun v hv b e => by have := ((h.row v hv).lt b e).2; omega) fun e he => by omega
  · obtain ⟨f1, f2, f3⟩ := h.far g (by rw [r1]; rfl)
    refine mk g _ cap r1 r2 ⟨f1, f2, f3⟩ (fun v hv b e => fun c => (h.rfar v hv b e).2.2.2 (by rw [r1, c]; rfl)) fun e he => ?_
    have hlt : g < w.heap.size := by
      rcases Nat.lt_or_ge g w.heap.size with q | q
      · exact q
      · rw [Array.getElem?_eq_none q] at r3; cases r3
    obtain ⟨g1, g2⟩ := es_get A e he
    rw [← r7, List.getElem?_take_of_lt (by omega)] at g1 g2
    refine ⟨rfl, hlt, ?_, ?_, ?_⟩
    · rw [cell_of_row w g (e * 2) cur 93 (0, 0) r3]; simpa using g1
    · rw [cell_of_row w g (e * 2 + 1) cur 93 (0, 0) r3]; simpa using g2
    · simp [World.frozen?, r3]
end Go.Proofs.Ytphebdmdbnpokaa.FL
