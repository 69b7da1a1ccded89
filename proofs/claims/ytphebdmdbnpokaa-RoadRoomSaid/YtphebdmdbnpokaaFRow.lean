/- A slice of one-cell elements in the call's own memory, from any place of a block on: read, taken from, appended to. -/
import Derived.Test.YtphebdmdbnpokaaMem
import Derived.ArgAppend
set_option linter.unusedSimpArgs false
set_option linter.unusedVariables false
namespace Go.Proofs.Ytphebdmdbnpokaa.FL
open Go.RowKit

/-- The value is a slice of the elements l; it lies in a block of the call's own, from base on, or has no capacity. -/
def RowAt (w : World) (base : Nat) (e : TypeId) (v : Value) (l : List Value) : Prop :=
  ∃ ao c, v = .slice ao l.length c ∧ c ≤ maxLen ∧ ((c = 0 ∧ l = []) ∨
    ∃ g o cur, ao = some ⟨g, o, none⟩ ∧ base ≤ g ∧ w.heap[g]? = some (.cells cur e (0, 0)) ∧ l.length ≤ c ∧ o + c ≤ cur.size ∧ (cur.toList.drop o).take l.length = l)

/-- Below block number B (of what was there) the world is as it was. -/
structure Grew (B : Nat) (w w' : World) : Prop where
  os : w'.os = w.os
  tape : w'.tape = w.tape
  output : w'.output = w.output
  size : w.heap.size ≤ w'.heap.size
  block : ∀ k, k < w.heap.size → k < B → w'.heap[k]? = w.heap[k]?
theorem one_new {w : World} {b : Nat} (x : Value) (e : TypeId) (hb : w.heap.size = b) : ∀ j u, [x][j]? = some u → (w.alloc (.cells #[x] e)).cell? ((⟨b, 0, none⟩ : Addr).add j) = some u := by
  subst hb
  exact cell_one_new _ _ _
theorem rowAt_of_owns {w : World} {base e : Nat} {v : Value} {n : Nat} {xs : List Value} (h : w.ownsRow base e 1 v n xs) : RowAt w base e v xs := by
  obtain ⟨h1, ⟨rfl, rfl⟩ | ⟨g, cap, cur, rfl, h2, h3, h4, h5, h6, h7⟩⟩ := h
  · obtain rfl : xs = [] := List.eq_nil_of_length_eq_zero (by omega)
    exact ⟨none, 0, rfl, by decide, .inl ⟨rfl, rfl⟩⟩
  · obtain rfl : n = xs.length := by omega
    exact ⟨_, _, rfl, h5, .inr ⟨g, 0, cur, rfl, h2, h3, h4, by omega, by simpa using h7⟩⟩
/-- A row that is laid out with its elements. -/
theorem rowAt_lit (w : World) (base : Nat) (e : TypeId) (cs : Array Value) (hb : base ≤ w.heap.size) (hm : cs.size ≤ maxLen) : RowAt (w.alloc (.cells cs e)) base e (.slice (some ⟨w.heap.size, 0, none⟩) cs.size cs.size) cs.toList := by
  refine ⟨some ⟨w.heap.size, 0, none⟩, cs.size, by simp, hm, .inr ⟨w.heap.size, 0, cs, rfl, hb, heap_alloc_new w _, by simp, by omega, ?_⟩⟩
  rw [List.drop_zero]
  exact List.take_length
theorem rowAt_one {w : World} {base b : Nat} (e : TypeId) (x : Value) (h : w.heap.size = b) (hb : base ≤ b) : RowAt (w.alloc (.cells #[x] e)) base e (.slice (some ⟨b, 0, none⟩) 1 1) [x] := by
  subst h
  exact rowAt_lit w base e #[x] hb (by simp [maxLen])
theorem RowAt.block {w : World} {base e : Nat} {v : Value} {l : List Value} (h : RowAt w base e v l) : ∀ k, v.ownBlock = some k → l ≠ [] → base ≤ k ∧ k < w.heap.size := by
  intro k hk hl
  obtain ⟨ao, c, rfl, _, ⟨_, h2⟩ | ⟨g, o, cur, rfl, h1, h2, _⟩⟩ := h
  · exact absurd h2 hl
  · obtain rfl : g = k := by simpa [Value.ownBlock] using hk
    exact ⟨h1, by
      rcases Nat.lt_or_ge g w.heap.size with h | h
      · exact h
      · rw [Array.getElem?_eq_none h] at h2; cases h2⟩
theorem RowAt.keep {w w' : World} {base e : Nat} {v : Value} {l : List Value} (h : RowAt w base e v l) (hk : ∀ k, base ≤ k → k < w.heap.size → w'.heap[k]? = w.heap[k]?) : RowAt w' base e v l := by
  obtain ⟨ao, c, rfl, h0, h⟩ := h
  refine ⟨ao, c, rfl, h0, h.imp id ?_⟩
  rintro ⟨g, o, cur, rfl, h1, h2, h3⟩
  refine ⟨g, o, cur, rfl, h1, ?_, h3⟩
  rw [hk g h1 ?_]
  · exact h2
  · rcases Nat.lt_or_ge g w.heap.size with h | h
    · exact h
    · rw [Array.getElem?_eq_none h] at h2; cases h2
/-- The first element, and what remains behind it. -/
theorem RowAt.head {w : World} {base e : Nat} {v x : Value} {l : List Value} (h : RowAt w base e v (x :: l)) :
    ∃ g o c, v = .slice (some ⟨g, o, none⟩) (l.length + 1) c ∧ base ≤ g ∧ l.length + 1 ≤ c ∧ c ≤ maxLen ∧ w.cell? ⟨g, o, none⟩ = some x ∧ RowAt w base e (.slice (if c = 1 then some ⟨g, o, none⟩ else some ⟨g, o + 1, none⟩) l.length (c - 1)) l := by
  obtain ⟨ao, c, rfl, hc, ⟨_, h2⟩ | ⟨g, o, cur, rfl, h1, h2, h3, h4, h5⟩⟩ := h
  · cases h2
  · have hd : cur.toList.drop o = x :: cur.toList.drop (o + 1) := by
      have hlt : o < cur.toList.length := by simp at h3 ⊢; omega
      rw [List.drop_eq_getElem_cons hlt] at h5 ⊢
      simp only [List.length_cons, List.take_succ_cons, List.cons.injEq] at h5
      rw [h5.1]
    have hx : cur[o]? = some x := by
      have : (cur.toList.drop o)[0]? = some x := by rw [hd]; rfl
      simpa using this
    refine ⟨g, o, c, rfl, h1, h3, hc, ?_, ?_⟩
    · rw [cell_of_row w g o cur e (0, 0) h2, hx]
    · simp only [List.length_cons] at h3 h5
      by_cases g1 : c = 1
      · subst g1
        have : l = [] := List.eq_nil_of_length_eq_zero (by omega)
        subst this
        exact ⟨_, 0, rfl, by decide, .inl ⟨rfl, rfl⟩⟩
      · rw [if_neg g1]
        refine ⟨_, c - 1, rfl, by omega, .inr ⟨g, o + 1, cur, rfl, h1, h2, by omega, by omega, ?_⟩⟩
        rw [hd, List.take_succ_cons, List.cons.injEq] at h5
        exact h5.2
theorem RowAt.nil {w : World} {base e : Nat} {v : Value} (h : RowAt w base e v []) : ∃ ao c, v = .slice ao 0 c := by
  obtain ⟨ao, c, rfl, _⟩ := h
  exact ⟨_, _, rfl⟩

section
variable {P : Program}
/-- The first element, and the value behind 'v[1:]'. -/
theorem RowAt.tail {w : World} {base : Nat} {v x : Value} {l : List Value} (t : TypeId) (ht : P.underlying t = some (.slice (P.elem t))) (hs : ∀ wx, (sizeOf (P.elem t)).run P wx = .ok 1 wx) {e : TypeId} (h : RowAt w base e v (x :: l)) :
    ∃ g o c q, v = .slice (some ⟨g, o, none⟩) (l.length + 1) c ∧ base ≤ g ∧ w.cell? ⟨g, o, none⟩ = some x ∧ RowAt w base e q l ∧ ∀ wx, (Instr.slice t (.slice (some ⟨g, o, none⟩) (l.length + 1) c) (some (.int .i64 1)) none none).run P wx = .ok q wx := by
  obtain ⟨g, o, c, e1, e2, e3, e4, e5, e6⟩ := h.head
  refine ⟨g, o, c, _, e1, e2, e5, e6, fun wx => ?_⟩
  rw [run_slice_l (P := P) wx t (some ⟨g, o, none⟩) (l.length + 1) c ht .i64 1 (by omega) (by omega), hs]
  simp only [Result.andThen, sliced]
  simp [Addr.add_lit]
theorem run_append_row (w : World) (base : Nat) (t ty e : TypeId) (i : TypeInfo) (z : Value) (bytes : Nat) (ht : P.underlying t = some (.slice e)) (hi : P.info? e = some i) (hz : i.zero = some z)
    (hsize : i.size = 1) (hby : i.bytes = bytes) (hzs : z.cells.size = 1)
    (v : Value) (l : List Value) (hown : RowAt w base e v l)
    (a : Addr) (m c : Nat) (news : List Value) (hl : news.length = m) (hnews : ∀ j u, news[j]? = some u → w.cell? (a.add j) = some u) (h1 : ∀ u ∈ news, u.oneCell' = true) (hm : 0 < m)
    (h63 : l.length + m ≤ maxLen) (hbytes : (l.length + m) * bytes ≤ 140737488355328) (hbase : base ≤ w.heap.size) :
    ∃ v' w', (Builtin.append_ #[t, t] ty #[v, .slice (some a) m c]).run P w = .ok v' w' ∧ RowAt w' base e v' (l ++ news) ∧
      Grew base w w' := by
  obtain ⟨ao, cap, rfl, hcm, h⟩ := hown
  have hl' : news.length = m * 1 := by omega
  have grown : ∀ (v' : Value) (w' : World), w'.ownsRow w.heap.size e 1 v' (l.length + m) (l ++ news) → w.grownBy w' none → RowAt w' base e v' (l ++ news) ∧
      Grew base w w' := by
    intro v' w' ho hg
    refine ⟨?_, hg.os, hg.tape, hg.output, hg.size, fun k h1 _ => hg.block k h1 (by simp)⟩
    obtain ⟨ao, c, e1, e2, h⟩ := rowAt_of_owns ho
    refine ⟨ao, c, e1, e2, h.imp id ?_⟩
    rintro ⟨g, o, cur, e3, e4, h⟩
    exact ⟨g, o, cur, e3, by omega, h⟩
  rcases h with ⟨rfl, rfl⟩ | ⟨g, o, cur, rfl, hbg, hg, hlc, hfit, htake⟩
  · cases ao with
    | none =>
      obtain ⟨v', w', hr, r1, r2, _⟩ := run_append_own (P := P) w w.heap.size t ty e i z 1 bytes ht hi hz hsize hby hzs (by decide) (.slice none 0 0) 0 [] (World.ownsRow_nil w _ e 1) a m c news hl' hnews h1 (by simpa using h63) (by simpa using hbytes) (Nat.le_refl _)
      exact ⟨v', w', hr, grown v' w' (by simpa using r1) (by simpa [Value.ownBlock] using r2)⟩
    | some b =>
      obtain ⟨v', w', hr, r1, r2⟩ := run_append_arg_grows (P := P) w t ty e i z 1 bytes ht hi hz hsize hby hzs (by decide) b 0 0 [] rfl (fun j u hj => by simp at hj) a m c news hl' hnews (by omega) (by simpa using h63) (by simpa using hbytes)
      exact ⟨v', w', hr, grown v' w' (by simpa using r1) r2⟩
  · by_cases hroom : l.length + m ≤ cap
    · have hf := run_firstCells_some (P := P) w 1 m a m c news hl' hnews
      have hst := run_storeCells_at P g (o + l.length * i.size) e news 0 cur w hg (by rw [hsize]; omega) h1
      simp only [Nat.add_zero, hsize, Nat.mul_one] at hst
      refine ⟨.slice (some ⟨g, o, none⟩) (l.length + m) cap, w.setRow g (cur.toList.take (o + l.length) ++ news ++ cur.toList.drop (o + l.length + news.length)).toArray, ?_, ?_, rfl, rfl, rfl, by simp, fun k _ hk => setRow_other w g k _ (by omega)⟩
      · simp only [List.append_assoc] at hst
        simp [Builtin.append_, run_underlying ht, sizeOf, typeInfo, hi, Builtin.lenOf, hroom, hf, hsize, Addr.add_lit, hst]
      · refine ⟨_, cap, by simp [hl], hcm, .inr ⟨g, o, _, rfl, hbg, setRow_heap w g cur _ e _ hg, by simp; omega, ?_, ?_⟩⟩
        · simp only [List.size_toArray, List.length_append, List.length_take, List.length_drop, Array.length_toList]
          omega
        · have e1 : cur.toList.take (o + l.length) = cur.toList.take o ++ l := by
            rw [List.take_add, htake]
          have hol : (cur.toList.take o).length = o := by simp; omega
          simp only [e1, List.append_assoc]
          rw [List.drop_append_of_le_length (by omega), List.drop_of_length_le (by omega), List.nil_append]
          rw [← List.append_assoc]
          exact List.take_left
    · have holds : ∀ j u, l[j]? = some u → w.cell? ((⟨g, o, none⟩ : Addr).add j) = some u := by
        intro j u hj
        have hjl := (List.getElem?_eq_some_iff.1 hj).1
        rw [← htake, List.getElem?_take_of_lt hjl, List.getElem?_drop] at hj
        have hj : cur[o + j]? = some u := by simpa using hj
        rw [Addr.add_lit]
        rw [cell_of_row w g (o + j) cur e (0, 0) hg, hj]
      obtain ⟨v', w', hr, r1, r2⟩ := run_append_arg_grows (P := P) w t ty e i z 1 bytes ht hi hz hsize hby hzs (by decide) ⟨g, o, none⟩ l.length cap l (by omega) holds a m c news hl' hnews (by omega) h63 hbytes
      exact ⟨v', w', hr, grown v' w' r1 r2⟩

theorem wpList_append_row {ops : Array Oper} {rest : List Oper} {o : Oper} {a : Act} {w : World} {Q : Exit → Act → World → Prop} (hgd : o.guard = none) (s x : Operand) (t : TypeId)
    (ho : o.op = .call { callee := .builtin .append, args := #[s, x], argTypes := #[t, t] })
    (base : Nat) (e : TypeId) (i : TypeInfo) (z : Value) (bytes : Nat) (ht : P.underlying t = some (.slice e)) (hi : P.info? e = some i) (hz : i.zero = some z)
    (hsize : i.size = 1) (hby : i.bytes = bytes) (hzs : z.cells.size = 1)
    (v : Value) (l : List Value) (hs : a.eval s = v) (hown : RowAt w base e v l)
    (ad : Addr) (m c : Nat) (news : List Value) (hx : a.eval x = .slice (some ad) m c) (hl : news.length = m) (hnews : ∀ j u, news[j]? = some u → w.cell? (ad.add j) = some u) (h1 : ∀ u ∈ news, u.oneCell' = true) (hm : 0 < m)
    (h63 : l.length + m ≤ maxLen) (hbytes : (l.length + m) * bytes ≤ 140737488355328) (hbase : base ≤ w.heap.size)
    (h : ∀ v' w', RowAt w' base e v' (l ++ news) → Grew base w w' → wpList P ops Q rest (a.put o.dst v') w') : wpList P ops Q (o :: rest) a w := by
  refine wpList_plain hgd fun K hK' => ?_
  obtain ⟨v', w', hrun, r1, r2⟩ := run_append_row (P := P) w base t o.type e i z bytes ht hi hz hsize hby hzs v l hown ad m c news hl hnews h1 hm h63 hbytes hbase
  unfold Oper.wp
  simp [execOp, ho, resolve, invoke, builtin, hs, hx, hrun, Result.andThen]
  exact hK' _ _ (h v' w' r1 r2)
end
end Go.Proofs.Ytphebdmdbnpokaa.FL
