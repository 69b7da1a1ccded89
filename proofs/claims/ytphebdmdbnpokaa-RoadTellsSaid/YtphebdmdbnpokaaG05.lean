/- Joined of: FF1 FRow FNet. -/
import Derived.ArgAppend
import Derived.Test.YtphebdmdbnpokaaRows
import Derived.Test.YtphebdmdbnpokaaMem
import Derived.Test.YtphebdmdbnpokaaG04
/- Walks of flow.valid and its like: the tests of a network. -/
set_option linter.unusedSimpArgs false
set_option linter.unusedVariables false
namespace Go.Proofs.Ytphebdmdbnpokaa.FL
open Go.RowKit FM

/-- A slice of arcs: three cells each. -/
def arcF (A : List Arc) (j : Nat) : Value := .int .i64 (match j % 3 with | 0 => (A.getD (j / 3) dA).1 | 1 => (A.getD (j / 3) dA).2.1 | _ => (A.getD (j / 3) dA).2.2)
def ArcsAt (w : World) (B : Nat) (C : Option Addr) (A : List Arc) : Prop := CellsAt w B C (3 * A.length) (arcF A)
theorem ArcsAt.at_ {w : World} {B : Nat} {C : Option Addr} {A : List Arc} (h : ArcsAt w B C A) {k : Nat} (hk : k < A.length) : ∃ b off x y z, C = some ⟨b, off, none⟩ ∧ b < B ∧ Hid (A[k]? = some (x, y, z)) ∧
    w.cell? ⟨b, off + k * 3, none⟩ = some (.int .i64 x) ∧ w.cell? ⟨b, off + k * 3 + 1, none⟩ = some (.int .i64 y) ∧ w.cell? ⟨b, off + k * 3 + 2, none⟩ = some (.int .i64 z) := by
  obtain ⟨b, off, e, hb, hc⟩ := h (by omega)
  have c0 := hc (k * 3) (by omega)
  have c1 := hc (k * 3 + 1) (by omega)
  have c2 := hc (k * 3 + 2) (by omega)
  have m0 : (k * 3) % 3 = 0 := by omega
  have m1 : (k * 3 + 1) % 3 = 1 := by omega
  have m2 : (k * 3 + 2) % 3 = 2 := by omega
  have d0 : (k * 3) / 3 = k := by omega
  have d1 : (k * 3 + 1) / 3 = k := by omega
  have d2 : (k * 3 + 2) / 3 = k := by omega
  simp only [arcF, m0, m1, m2, d0, d1, d2] at c0 c1 c2
  refine ⟨b, off, (A.getD k dA).1, (A.getD k dA).2.1, (A.getD k dA).2.2, e, hb, ?_, c0, c1, c2⟩
  show A[k]? = _
  simp [List.getD, List.getElem?_eq_getElem hk]

theorem ArcsAt.below {w w' : World} {B : Nat} {C : Option Addr} {A : List Arc} (h : ArcsAt w B C A) (hb : Below B w w') : ArcsAt w' B C A := CellsAt.below h hb
theorem ArcsAt.more {w : World} {B B' : Nat} {C : Option Addr} {A : List Arc} (h : ArcsAt w B C A) (hB : B ≤ B') : ArcsAt w B' C A := CellsAt.more h hB
def good (n : Int) (a : Arc) : Prop := 0 ≤ a.1 ∧ a.1 < n ∧ 0 ≤ a.2.1 ∧ a.2.1 < n ∧ 0 ≤ a.2.2 ∧ a.2.2 ≤ 1125899906842624
def Valid (n : Int) (A : List Arc) (s t : Int) : Prop := 1 ≤ n ∧ n ≤ 256 ∧ A.length ≤ 4096 ∧ (∀ (k : Nat) a, A[k]? = some a → good n a) ∧ 0 ≤ s ∧ s < n ∧ 0 ≤ t ∧ t < n ∧ s ≠ t
noncomputable def validB (n : Int) (A : List Arc) (s t : Int) : Bool := @decide (Valid n A s t) (Classical.propDecidable _)
theorem validB_true {n : Int} {A : List Arc} {s t : Int} (h : Valid n A s t) : validB n A s t = true := @decide_eq_true _ (Classical.propDecidable _) h
theorem validB_false {n : Int} {A : List Arc} {s t : Int} (h : ¬ Valid n A s t) : validB n A s t = false := @decide_eq_false _ (Classical.propDecidable _) h
theorem validB_of {n : Int} {A : List Arc} {s t : Int} (h : validB n A s t = true) : Valid n A s t := @of_decide_eq_true _ (Classical.propDecidable _) h

def ValidIs (n : Int) (A : List Arc) (s t : Int) (w : World) (e : Ending) (w' : World) : Prop := e = .returned (.bool (validB n A s t)) ∧ Below w.heap.size w w'
theorem ValidIs.no {n : Int} {A : List Arc} {s t : Int} {w w' : World} (h : ¬ Valid n A s t) (hb : Below w.heap.size w w') : ValidIs n A s t w (.returned (.bool false)) w' := ⟨by rw [validB_false h], hb⟩

set_option maxHeartbeats 1000000 in
theorem valid_any (n s t : Int) (C : Option Addr) (cc : Nat) (A : List Arc) (w : World) (hC : ArcsAt w w.heap.size C A) (hlen : A.length ≤ 9223372036854775807) :
    Calls Try.prog 33 #[.int .i64 n, .slice C A.length cc, .int .i64 s, .int .i64 t] w (ValidIs n A s t w) := by
  by_cases h1 : 1 ≤ n
  case neg =>
    have hv : Hid (¬ Valid n A s t) := fun h => h1 h.1
    go_enter Try.func33, Try.ntmps33
    go_wp2
    go_ret
    exact .no hv.out (Below.refl _ _)
  by_cases h2 : n ≤ 256
  case neg =>
    have hv : Hid (¬ Valid n A s t) := fun h => h2 h.2.1
    go_enter Try.func33, Try.ntmps33
    go_wp2
    go_ret
    exact .no hv.out (Below.refl _ _)
  by_cases h3 : A.length ≤ 4096
  case neg =>
    have hv : Hid (¬ Valid n A s t) := fun h => h3 h.2.2.1
    have h3' : (4096 : Int) < (A.length : Int) := by omega
    go_enter Try.func33, Try.ntmps33
    go_wp2
    go_ret
    exact .no hv.out (Below.refl _ _)
  clear hlen
  go_enter Try.func33, Try.ntmps33
  go_wp2
  go_loopw [10, 24, 26, 27] (fun _ i _ _ wr => ∃ k : Nat, k ≤ A.length ∧ i = .int .i64 k ∧ Hid (∀ (j : Nat) a, j < k → A[j]? = some a → good n a) ∧ Below w.heap.size w wr) (fun _ i _ _ _ => A.length - (intOf i).toNat)
  case atStart => exact ⟨0, Nat.zero_le _, rfl, fun j a hj => absurd hj (by omega), Below.refl _ _⟩
  case round =>
    obtain ⟨k, hk, rfl, hg, hb⟩ := hrel
    by_cases hlt : k < A.length
    · obtain ⟨b, off, x, y, z, rfl, hbb, ha, c0, c1, c2⟩ := (hC.below hb).at_ hlt
      by_cases hgd : good n (x, y, z)
      · have hg' : Hid (∀ (j : Nat) a, j < k + 1 → A[j]? = some a → good n a) := by
          intro j a hj hja
          by_cases g : j < k
          · exact hg.out j a g hja
          · obtain rfl : j = k := by omega
            rw [ha.out] at hja
            obtain rfl := Option.some.inj hja
            exact hgd
        have hb2 := hb.alloc hb.size (.cells #[.int .i64 x, .int .i64 y, .int .i64 z] 66)
        obtain ⟨g0, g1, g2, g3, g4, g5⟩ := hgd
        have g0 : 0 ≤ x := g0
        have g1 : x < n := g1
        have g2 : 0 ≤ y := g2
        have g3 : y < n := g3
        have g4 : 0 ≤ z := g4
        have g5 : z ≤ 1125899906842624 := g5
        go_wp2
        go_roundw
        case rel => exact ⟨k + 1, by omega, by go_num, hg', hb2⟩
        case measure => simp [intOf]; omega
      · have hv : Hid (¬ Valid n A s t) := fun h => hgd (h.2.2.2.1 k _ ha.out)
        have hgd' : Hid (¬ (0 ≤ x ∧ x < n ∧ 0 ≤ y ∧ y < n ∧ 0 ≤ z ∧ z ≤ 1125899906842624)) := hgd
        have hb2 := hb.alloc hb.size (.cells #[.int .i64 x, .int .i64 y, .int .i64 z] 66)
        clear hgd hg
        go_wp2
        all_goals first | (go_ret; exact .no hv.out hb2) | (exfalso; refine hgd'.out ⟨?_, ?_, ?_, ?_, ?_, ?_⟩ <;> omega)
    · have hall : Hid (∀ (k : Nat) a, A[k]? = some a → good n a) := fun j a hj => hg.out j a (by
        have := (List.getElem?_eq_some_iff.1 hj).1; omega) hj
      clear hg
      by_cases g0 : 0 ≤ s
      case neg =>
        have hv : Hid (¬ Valid n A s t) := fun h => g0 (h.2.2.2.2.1)
        go_wp2
        go_ret
        exact .no hv.out hb
      by_cases g1 : s < n
      case neg =>
        have hv : Hid (¬ Valid n A s t) := fun h => g1 (h.2.2.2.2.2.1)
        go_wp2
        go_ret
        exact .no hv.out hb
      by_cases g2 : 0 ≤ t
      case neg =>
        have hv : Hid (¬ Valid n A s t) := fun h => g2 (h.2.2.2.2.2.2.1)
        go_wp2
        go_ret
        exact .no hv.out hb
      by_cases g3 : t < n
      case neg =>
        have hv : Hid (¬ Valid n A s t) := fun h => g3 (h.2.2.2.2.2.2.2.1)
        go_wp2
        go_ret
        exact .no hv.out hb
      by_cases g4 : s = t
      · subst g4
        have hv : Hid (¬ Valid n A s s) := fun h => h.2.2.2.2.2.2.2.2 rfl
        have g4' : (s != s) = false := by simp
        go_wp2
        go_ret
        exact .no hv.out hb
      · have hv : Hid (Valid n A s t) := ⟨h1, h2, h3, hall.out, g0, g1, g2, g3, g4⟩
        have g4' : (s != t) = true := by rw [bne_iff_ne]; exact g4
        go_wp2
        go_ret
        exact ⟨by rw [validB_true hv.out]; rfl, hb⟩
end Go.Proofs.Ytphebdmdbnpokaa.FL

/- A slice of one-cell elements in the call's own memory, from any place of a block on: read, taken from, appended to. -/
namespace Go.Proofs.Ytphebdmdbnpokaa.FL
open Go.RowKit

/-- The value is a slice of the elements l; it lies in a block of the call's own, from base on, or has no capacity. -/
def RowAt (w : World) (base : Nat) (e : TypeId) (v : Value) (l : List Value) : Prop :=
  ∃ ao c, v = .slice ao l.length c ∧ c ≤ maxLen ∧ ((c = 0 ∧ l = []) ∨
    ∃ g o cur, ao = some ⟨g, o, none⟩ ∧ base ≤ g ∧ w.heap[g]? = some (.cells cur e (0, 0)) ∧ l.length ≤ c ∧ o + c ≤ cur.size ∧ (cur.toList.drop o).take l.length = l)

/-- Below block number B (of what was there) the world is as it was. -/
structure Grew (B : Nat) (w w' : World) : Prop where
  os : w'.os = w.os
  tape : w'.tape = w.tape
  output : w'.output = w.output
  size : w.heap.size ≤ w'.heap.size
  block : ∀ k, k < w.heap.size → k < B → w'.heap[k]? = w.heap[k]?
theorem one_new {w : World} {b : Nat} (x : Value) (e : TypeId) (hb : w.heap.size = b) : ∀ j u, [x][j]? = some u → (w.alloc (.cells #[x] e)).cell? ((⟨b, 0, none⟩ : Addr).add j) = some u := by
  subst hb
  exact cell_one_new _ _ _
theorem rowAt_of_owns {w : World} {base e : Nat} {v : Value} {n : Nat} {xs : List Value} (h : w.ownsRow base e 1 v n xs) : RowAt w base e v xs := by
  obtain ⟨h1, ⟨rfl, rfl⟩ | ⟨g, cap, cur, rfl, h2, h3, h4, h5, h6, h7⟩⟩ := h
  · obtain rfl : xs = [] := List.eq_nil_of_length_eq_zero (by omega)
    exact ⟨none, 0, rfl, by decide, .inl ⟨rfl, rfl⟩⟩
  · obtain rfl : n = xs.length := by omega
    exact ⟨_, _, rfl, h5, .inr ⟨g, 0, cur, rfl, h2, h3, h4, by omega, by simpa using h7⟩⟩
/-- A row that is laid out with its elements. -/
theorem rowAt_lit (w : World) (base : Nat) (e : TypeId) (cs : Array Value) (hb : base ≤ w.heap.size) (hm : cs.size ≤ maxLen) : RowAt (w.alloc (.cells cs e)) base e (.slice (some ⟨w.heap.size, 0, none⟩) cs.size cs.size) cs.toList := by
  refine ⟨some ⟨w.heap.size, 0, none⟩, cs.size, by simp, hm, .inr ⟨w.heap.size, 0, cs, rfl, hb, heap_alloc_new w _, by simp, by omega, ?_⟩⟩
  rw [List.drop_zero]
  exact List.take_length
theorem rowAt_one {w : World} {base b : Nat} (e : TypeId) (x : Value) (h : w.heap.size = b) (hb : base ≤ b) : RowAt (w.alloc (.cells #[x] e)) base e (.slice (some ⟨b, 0, none⟩) 1 1) [x] := by
  subst h
  exact rowAt_lit w base e #[x] hb (by simp [maxLen])
theorem RowAt.block {w : World} {base e : Nat} {v : Value} {l : List Value} (h : RowAt w base e v l) : ∀ k, v.ownBlock = some k → l ≠ [] → base ≤ k ∧ k < w.heap.size := by
  intro k hk hl
  obtain ⟨ao, c, rfl, _, ⟨_, h2⟩ | ⟨g, o, cur, rfl, h1, h2, _⟩⟩ := h
  · exact absurd h2 hl
  · obtain rfl : g = k := by simpa [Value.ownBlock] using hk
    exact ⟨h1, by
      rcases Nat.lt_or_ge g w.heap.size with h | h
      · exact h
      · rw [Array.getElem?_eq_none h] at h2; cases h2⟩
theorem RowAt.keep {w w' : World} {base e : Nat} {v : Value} {l : List Value} (h : RowAt w base e v l) (hk : ∀ k, base ≤ k → k < w.heap.size → w'.heap[k]? = w.heap[k]?) : RowAt w' base e v l := by
  obtain ⟨ao, c, rfl, h0, h⟩ := h
  refine ⟨ao, c, rfl, h0, h.imp id ?_⟩
  rintro ⟨g, o, cur, rfl, h1, h2, h3⟩
  refine ⟨g, o, cur, rfl, h1, ?_, h3⟩
  rw [hk g h1 ?_]
  · exact h2
  · rcases Nat.lt_or_ge g w.heap.size with h | h
    · exact h
    · rw [Array.getElem?_eq_none h] at h2; cases h2
/-- The first element, and what remains behind it. -/
theorem RowAt.head {w : World} {base e : Nat} {v x : Value} {l : List Value} (h : RowAt w base e v (x :: l)) :
    ∃ g o c, v = .slice (some ⟨g, o, none⟩) (l.length + 1) c ∧ base ≤ g ∧ l.length + 1 ≤ c ∧ c ≤ maxLen ∧ w.cell? ⟨g, o, none⟩ = some x ∧ RowAt w base e (.slice (if c = 1 then some ⟨g, o, none⟩ else some ⟨g, o + 1, none⟩) l.length (c - 1)) l := by
  obtain ⟨ao, c, rfl, hc, ⟨_, h2⟩ | ⟨g, o, cur, rfl, h1, h2, h3, h4, h5⟩⟩ := h
  · cases h2
  · have hd : cur.toList.drop o = x :: cur.toList.drop (o + 1) := by
      have hlt : o < cur.toList.length := by simp at h3 ⊢; omega
      rw [List.drop_eq_getElem_cons hlt] at h5 ⊢
      simp only [List.length_cons, List.take_succ_cons, List.cons.injEq] at h5
      rw [h5.1]
    have hx : cur[o]? = some x := by
      have : (cur.toList.drop o)[0]? = some x := by rw [hd]; rfl
      simpa using this
    refine ⟨g, o, c, rfl, h1, h3, hc, ?_, ?_⟩
    · rw [cell_of_row w g o cur e (0, 0) h2, hx]
    · simp only [List.length_cons] at h3 h5
      by_cases g1 : c = 1
      · subst g1
        have : l = [] := List.eq_nil_of_length_eq_zero (by omega)
        subst this
        exact ⟨_, 0, rfl, by decide, .inl ⟨rfl, rfl⟩⟩
      · rw [if_neg g1]
        refine ⟨_, c - 1, rfl, by omega, .inr ⟨g, o + 1, cur, rfl, h1, h2, by omega, by omega, ?_⟩⟩
        rw [hd, List.take_succ_cons, List.cons.injEq] at h5
        exact h5.2
theorem RowAt.nil {w : World} {base e : Nat} {v : Value} (h : RowAt w base e v []) : ∃ ao c, v = .slice ao 0 c := by
  obtain ⟨ao, c, rfl, _⟩ := h
  exact ⟨_, _, rfl⟩

section
variable {P : Program}
/-- The first element, and the value behind 'v[1:]'. -/
theorem RowAt.tail {w : World} {base : Nat} {v x : Value} {l : List Value} (t : TypeId) (ht : P.underlying t = some (.slice (P.elem t))) (hs : ∀ wx, (sizeOf (P.elem t)).run P wx = .ok 1 wx) {e : TypeId} (h : RowAt w base e v (x :: l)) :
    ∃ g o c q, v = .slice (some ⟨g, o, none⟩) (l.length + 1) c ∧ base ≤ g ∧ w.cell? ⟨g, o, none⟩ = some x ∧ RowAt w base e q l ∧ ∀ wx, (Instr.slice t (.slice (some ⟨g, o, none⟩) (l.length + 1) c) (some (.int .i64 1)) none none).run P wx = .ok q wx := by
  obtain ⟨g, o, c, e1, e2, e3, e4, e5, e6⟩ := h.head
  refine ⟨g, o, c, _, e1, e2, e5, e6, fun wx => ?_⟩
  rw [run_slice_l (P := P) wx t (some ⟨g, o, none⟩) (l.length + 1) c ht .i64 1 (by omega) (by omega), hs]
  simp only [Result.andThen, sliced]
  simp [Addr.add_lit]
theorem run_append_row (w : World) (base : Nat) (t ty e : TypeId) (i : TypeInfo) (z : Value) (bytes : Nat) (ht : P.underlying t = some (.slice e)) (hi : P.info? e = some i) (hz : i.zero = some z)
    (hsize : i.size = 1) (hby : i.bytes = bytes) (hzs : z.cells.size = 1)
    (v : Value) (l : List Value) (hown : RowAt w base e v l)
    (a : Addr) (m c : Nat) (news : List Value) (hl : news.length = m) (hnews : ∀ j u, news[j]? = some u → w.cell? (a.add j) = some u) (h1 : ∀ u ∈ news, u.oneCell' = true) (hm : 0 < m)
    (h63 : l.length + m ≤ maxLen) (hbytes : (l.length + m) * bytes ≤ 140737488355328) (hbase : base ≤ w.heap.size) :
    ∃ v' w', (Builtin.append_ #[t, t] ty #[v, .slice (some a) m c]).run P w = .ok v' w' ∧ RowAt w' base e v' (l ++ news) ∧
      Grew base w w' := by
  obtain ⟨ao, cap, rfl, hcm, h⟩ := hown
  have hl' : news.length = m * 1 := by omega
  have grown : ∀ (v' : Value) (w' : World), w'.ownsRow w.heap.size e 1 v' (l.length + m) (l ++ news) → w.grownBy w' none → RowAt w' base e v' (l ++ news) ∧
      Grew base w w' := by
    intro v' w' ho hg
    refine ⟨?_, hg.os, hg.tape, hg.output, hg.size, fun k h1 _ => hg.block k h1 (by simp)⟩
    obtain ⟨ao, c, e1, e2, h⟩ := rowAt_of_owns ho
    refine ⟨ao, c, e1, e2, h.imp id ?_⟩
    rintro ⟨g, o, cur, e3, e4, h⟩
    exact ⟨g, o, cur, e3, by omega, h⟩
  rcases h with ⟨rfl, rfl⟩ | ⟨g, o, cur, rfl, hbg, hg, hlc, hfit, htake⟩
  · cases ao with
    | none =>
      obtain ⟨v', w', hr, r1, r2, _⟩ := run_append_own (P := P) w w.heap.size t ty e i z 1 bytes ht hi hz hsize hby hzs (by decide) (.slice none 0 0) 0 [] (World.ownsRow_nil w _ e 1) a m c news hl' hnews h1 (by simpa using h63) (by simpa using hbytes) (Nat.le_refl _)
      exact ⟨v', w', hr, grown v' w' (by simpa using r1) (by simpa [Value.ownBlock] using r2)⟩
    | some b =>
      obtain ⟨v', w', hr, r1, r2⟩ := run_append_arg_grows (P := P) w t ty e i z 1 bytes ht hi hz hsize hby hzs (by decide) b 0 0 [] rfl (fun j u hj => by simp at hj) a m c news hl' hnews (by omega) (by simpa using h63) (by simpa using hbytes)
      exact ⟨v', w', hr, grown v' w' (by simpa using r1) r2⟩
  · by_cases hroom : l.length + m ≤ cap
    · have hf := run_firstCells_some (P := P) w 1 m a m c news hl' hnews
      have hst := run_storeCells_at P g (o + l.length * i.size) e news 0 cur w hg (by rw [hsize]; omega) h1
      simp only [Nat.add_zero, hsize, Nat.mul_one] at hst
      refine ⟨.slice (some ⟨g, o, none⟩) (l.length + m) cap, w.setRow g (cur.toList.take (o + l.length) ++ news ++ cur.toList.drop (o + l.length + news.length)).toArray, ?_, ?_, rfl, rfl, rfl, by simp, fun k _ hk => setRow_other w g k _ (by omega)⟩
      · simp only [List.append_assoc] at hst
        simp [Builtin.append_, run_underlying ht, sizeOf, typeInfo, hi, Builtin.lenOf, hroom, hf, hsize, Addr.add_lit, hst]
      · refine ⟨_, cap, by simp [hl], hcm, .inr ⟨g, o, _, rfl, hbg, setRow_heap w g cur _ e _ hg, by simp; omega, ?_, ?_⟩⟩
        · simp only [List.size_toArray, List.length_append, List.length_take, List.length_drop, Array.length_toList]
          omega
        · have e1 : cur.toList.take (o + l.length) = cur.toList.take o ++ l := by
            rw [List.take_add, htake]
          have hol : (cur.toList.take o).length = o := by simp; omega
          simp only [e1, List.append_assoc]
          rw [List.drop_append_of_le_length (by omega), List.drop_of_length_le (by omega), List.nil_append]
          rw [← List.append_assoc]
          exact List.take_left
    · have holds : ∀ j u, l[j]? = some u → w.cell? ((⟨g, o, none⟩ : Addr).add j) = some u := by
        intro j u hj
        have hjl := (List.getElem?_eq_some_iff.1 hj).1
        rw [← htake, List.getElem?_take_of_lt hjl, List.getElem?_drop] at hj
        have hj : cur[o + j]? = some u := by simpa using hj
        rw [Addr.add_lit]
        rw [cell_of_row w g (o + j) cur e (0, 0) hg, hj]
      obtain ⟨v', w', hr, r1, r2⟩ := run_append_arg_grows (P := P) w t ty e i z 1 bytes ht hi hz hsize hby hzs (by decide) ⟨g, o, none⟩ l.length cap l (by omega) holds a m c news hl' hnews (by omega) h63 hbytes
      exact ⟨v', w', hr, grown v' w' r1 r2⟩

theorem wpList_append_row {ops : Array Oper} {rest : List Oper} {o : Oper} {a : Act} {w : World} {Q : Exit → Act → World → Prop} (hgd : o.guard = none) (s x : Operand) (t : TypeId)
    (ho : o.op = .call { callee := .builtin .append, args := #[s, x], argTypes := #[t, t] })
    (base : Nat) (e : TypeId) (i : TypeInfo) (z : Value) (bytes : Nat) (ht : P.underlying t = some (.slice e)) (hi : P.info? e = some i) (hz : i.zero = some z)
    (hsize : i.size = 1) (hby : i.bytes = bytes) (hzs : z.cells.size = 1)
    (v : Value) (l : List Value) (hs : a.eval s = v) (hown : RowAt w base e v l)
    (ad : Addr) (m c : Nat) (news : List Value) (hx : a.eval x = .slice (some ad) m c) (hl : news.length = m) (hnews : ∀ j u, news[j]? = some u → w.cell? (ad.add j) = some u) (h1 : ∀ u ∈ news, u.oneCell' = true) (hm : 0 < m)
    (h63 : l.length + m ≤ maxLen) (hbytes : (l.length + m) * bytes ≤ 140737488355328) (hbase : base ≤ w.heap.size)
    (h : ∀ v' w', RowAt w' base e v' (l ++ news) → Grew base w w' → wpList P ops Q rest (a.put o.dst v') w') : wpList P ops Q (o :: rest) a w := by
  refine wpList_plain hgd fun K hK' => ?_
  obtain ⟨v', w', hrun, r1, r2⟩ := run_append_row (P := P) w base t o.type e i z bytes ht hi hz hsize hby hzs v l hown ad m c news hl hnews h1 hm h63 hbytes hbase
  unfold Oper.wp
  simp [execOp, ho, resolve, invoke, builtin, hs, hx, hrun, Result.andThen]
  exact hK' _ _ (h v' w' r1 r2)
end
end Go.Proofs.Ytphebdmdbnpokaa.FL

/- The network in memory: its block of three cells, the edges, the edges from each node, the distances; and what writes to it do. -/
namespace Go.Proofs.Ytphebdmdbnpokaa.FL
open Go.RowKit FM

/-- Below block number M the world is as it was, but for the blocks in S. -/
structure Keeps (M : Nat) (S : Nat → Prop) (w w' : World) : Prop where
  os : w'.os = w.os
  tape : w'.tape = w.tape
  output : w'.output = w.output
  size : w.heap.size ≤ w'.heap.size
  block : ∀ k, k < M → ¬ S k → w'.heap[k]? = w.heap[k]?
section
variable {M : Nat} {S : Nat → Prop} {a b c : World}
theorem Keeps.refl (M : Nat) (S : Nat → Prop) (w : World) : Keeps M S w w := ⟨rfl, rfl, rfl, Nat.le_refl _, fun _ _ _ => rfl⟩
theorem Keeps.trans (h : Keeps M S a b) (k : Keeps M S b c) : Keeps M S a c := ⟨k.os.trans h.os, k.tape.trans h.tape, k.output.trans h.output, Nat.le_trans h.size k.size, fun n h1 h2 => (k.block n h1 h2).trans (h.block n h1 h2)⟩
theorem Keeps.alloc (h : Keeps M S a b) (hM : M ≤ b.heap.size) (o : Obj) : Keeps M S a (b.alloc o) :=
  ⟨h.os, h.tape, h.output, by have := h.size; simp; omega, fun k h1 h2 => (Below.heap_alloc b o k (by omega)).trans (h.block k h1 h2)⟩
theorem Keeps.setCell (h : Keeps M S a b) {p : Addr} (hp : M ≤ p.block ∨ S p.block) (u : Value) : Keeps M S a (b.setCell p u) :=
  ⟨h.os, h.tape, h.output, by simpa using h.size, fun k h1 h2 => (Below.heap_setCell b p u k (by
    rintro rfl
    rcases hp with g | g
    · omega
    · exact h2 g)).trans (h.block k h1 h2)⟩
theorem Keeps.drew (h : Keeps M S a b) : Keeps M S a b.drew := ⟨h.os, h.tape, h.output, h.size, h.block⟩
theorem Keeps.drewN (h : Keeps M S a b) (n : Nat) : Keeps M S a (b.drewN n) := ⟨h.os, h.tape, h.output, h.size, h.block⟩
theorem Keeps.mono {M' : Nat} {S' : Nat → Prop} (h : Keeps M S a b) (hM : M' ≤ M) (hS : ∀ k, k < M' → S k → S' k) : Keeps M' S' a b :=
  ⟨h.os, h.tape, h.output, h.size, fun k h1 h2 => h.block k (by omega) (fun g => h2 (hS k h1 g))⟩
theorem Keeps.cell (h : Keeps M S a b) {p : Addr} (h1 : p.block < M) (h2 : ¬ S p.block) : b.cell? p = a.cell? p := World.cell?_of_block (h.block _ h1 h2)
theorem Keeps.below {B : Nat} (h : Keeps M S a b) (hB : B ≤ M) (hS : ∀ k, S k → B ≤ k) : Below B a b :=
  ⟨h.os, h.tape, h.output, h.size, fun k hk => h.block k (by omega) (fun g => by have := hS k g; omega)⟩
theorem Keeps.of_below {B : Nat} (h : Below B a b) : Keeps B S a b := ⟨h.os, h.tape, h.output, h.size, fun k hk _ => h.block k hk⟩
theorem Keeps.step (h : Keeps M S a b) (hM : M ≤ b.heap.size) (k : Grew M b c) : Keeps M S a c :=
  ⟨k.os.trans h.os, k.tape.trans h.tape, k.output.trans h.output, Nat.le_trans h.size k.size, fun n h1 h2 => (k.block n (by omega) h1).trans (h.block n h1 h2)⟩
end

theorem cset_other {w : World} {a b : Addr} {v : Value} (h : a ≠ b) : (w.setCell a v).cell? b = w.cell? b := World.cell?_setCell_other _ _ _ _ h
theorem cset_same {w : World} {a : Addr} {u v : Value} (h : w.cell? a = some u) : (w.setCell a v).cell? a = some v := World.cell?_setCell_same _ _ _ h
structure NA where
  X : Nat
  gO : Nat
  gD : Nat
  gE : Nat
  pE : Option Addr
  cE : Nat
  row : Nat → Value

structure Net (w : World) (B M n : Nat) (A : List Arc) (a : NA) (L : List Int) (D : Int → Int) : Prop where
  lo : B ≤ a.X ∧ B ≤ a.gO ∧ B ≤ a.gD ∧ B ≤ a.gE
  hi : a.X < M ∧ a.gO < M ∧ a.gD < M
  ne : a.X ≠ a.gD ∧ a.X ≠ a.gE ∧ a.gO ≠ a.gD ∧ a.gO ≠ a.gE ∧ a.gD ≠ a.gE
  x0 : w.cell? ⟨a.X, 0, none⟩ = some (.slice a.pE (2 * A.length) a.cE)
  x1 : w.cell? ⟨a.X, 1, none⟩ = some (.slice (some ⟨a.gO, 0, none⟩) n n)
  x2 : w.cell? ⟨a.X, 2, none⟩ = some (.slice (some ⟨a.gD, 0, none⟩) n n)
  out : ∀ v, v < n → w.cell? ⟨a.gO, v, none⟩ = some (a.row v)
  row : ∀ v, v < n → ∃ ao c, a.row v = .slice ao (outs A v).length c ∧ ∀ (k e : Nat), (outs A v)[k]? = some e → ∃ g o, ao = some ⟨g, o, none⟩ ∧ B ≤ g ∧ g < M ∧ g ≠ a.gD ∧ g ≠ a.gE ∧ w.cell? ⟨g, o + k, none⟩ = some (.int .i64 e)
  dist : ∀ v, v < n → w.cell? ⟨a.gD, v, none⟩ = some (.int .i64 (D v)) ∧ w.frozen? ⟨a.gD, v, none⟩ = false
  edge : ∀ e, e < 2 * A.length → a.pE = some ⟨a.gE, 0, none⟩ ∧ a.gE < M ∧ w.cell? ⟨a.gE, e * 2, none⟩ = some (.int .i64 (to A e)) ∧ w.cell? ⟨a.gE, e * 2 + 1, none⟩ = some (.int .i64 (L.getD e 0)) ∧ w.frozen? ⟨a.gE, e * 2 + 1, none⟩ = false
  len : L.length = 2 * A.length

section
variable {w w' : World} {B M n : Nat} {A : List Arc} {a : NA} {L : List Int} {D : Int → Int}
theorem Net.keep (h : Net w B M n A a L D) (hk : ∀ k, k < M → w'.heap[k]? = w.heap[k]?) : Net w' B M n A a L D := by
  have hc : ∀ b o, b < M → w'.cell? ⟨b, o, none⟩ = w.cell? ⟨b, o, none⟩ := fun b o hb => World.cell?_of_block (a := ⟨b, o, none⟩) (hk b hb)
  have hf : ∀ b o, b < M → w'.frozen? ⟨b, o, none⟩ = w.frozen? ⟨b, o, none⟩ := fun b o hb => World.frozen?_of_block (a := ⟨b, o, none⟩) (hk b hb)
  obtain ⟨h1, h2, h3⟩ := h.hi
  refine ⟨h.lo, h.hi, h.ne, (hc _ _ h1).trans h.x0, (hc _ _ h1).trans h.x1, (hc _ _ h1).trans h.x2, fun v hv => (hc _ _ h2).trans (h.out v hv), fun v hv => ?_, fun v hv => ⟨(hc _ _ h3).trans (h.dist v hv).1, (hf _ _ h3).trans (h.dist v hv).2⟩, fun e he => ?_, h.len⟩
  · obtain ⟨ao, c, e1, e2⟩ := h.row v hv
    refine ⟨ao, c, e1, fun k e hk => ?_⟩
    obtain ⟨g, o, f1, f2, f3, f4, f5, f6⟩ := e2 k e hk
    exact ⟨g, o, f1, f2, f3, f4, f5, (hc _ _ f3).trans f6⟩
  · obtain ⟨e1, e2, e3, e4, e5⟩ := h.edge e he
    exact ⟨e1, e2, (hc _ _ e2).trans e3, (hc _ _ e2).trans e4, (hf _ _ e2).trans e5⟩
theorem Net.alloc (h : Net w B M n A a L D) (hM : M ≤ w.heap.size) (o : Obj) : Net (w.alloc o) B M n A a L D := h.keep fun k hk => Below.heap_alloc w o k (by omega)
theorem Net.drewN (h : Net w B M n A a L D) (m : Nat) : Net (w.drewN m) B M n A a L D := h.keep fun _ _ => rfl
theorem Net.setFar (h : Net w B M n A a L D) {p : Addr} (hp : M ≤ p.block) (u : Value) : Net (w.setCell p u) B M n A a L D := h.keep fun k hk => Below.heap_setCell w p u k (by omega)
theorem Net.setD (h : Net w B M n A a L D) {v : Nat} (hv : v < n) (x : Int) : Net (w.setCell ⟨a.gD, v, none⟩ (.int .i64 x)) B M n A a L (updI D v x) := by
  obtain ⟨n1, n2, n3, n4, n5⟩ := h.ne
  have hc : ∀ b o, b ≠ a.gD → (w.setCell ⟨a.gD, v, none⟩ (.int .i64 x)).cell? ⟨b, o, none⟩ = w.cell? ⟨b, o, none⟩ := fun b o hb => cset_other (fun e => hb (by injection e with e1; exact e1.symm))
  have hf : ∀ b o, (w.setCell ⟨a.gD, v, none⟩ (.int .i64 x)).frozen? ⟨b, o, none⟩ = w.frozen? ⟨b, o, none⟩ := fun b o => World.frozen?_setCell _ _ _ _
  refine ⟨h.lo, h.hi, h.ne, (hc _ _ n1).trans h.x0, (hc _ _ n1).trans h.x1, (hc _ _ n1).trans h.x2, fun v hv => (hc _ _ n3).trans (h.out v hv), fun v hv => ?_, fun u hu => ⟨?_, (hf _ _).trans (h.dist u hu).2⟩, fun e he => ?_, h.len⟩
  · obtain ⟨ao, c, e1, e2⟩ := h.row v hv
    refine ⟨ao, c, e1, fun k e hk => ?_⟩
    obtain ⟨g, o, f1, f2, f3, f4, f5, f6⟩ := e2 k e hk
    exact ⟨g, o, f1, f2, f3, f4, f5, (hc _ _ f4).trans f6⟩
  · by_cases e : u = v
    · subst e
      rw [updI_same]
      exact cset_same (h.dist u hu).1
    · rw [updI_other _ _ _ (by omega : (u : Int) ≠ v)]
      exact (cset_other (fun g => e (by injection g with g1 g2; exact g2.symm))).trans (h.dist u hu).1
  · obtain ⟨e1, e2, e3, e4, e5⟩ := h.edge e he
    exact ⟨e1, e2, (hc _ _ (Ne.symm n5)).trans e3, (hc _ _ (Ne.symm n5)).trans e4, (hf _ _).trans e5⟩
theorem Net.setL (h : Net w B M n A a L D) {e : Nat} (he : e < 2 * A.length) (x : Int) : Net (w.setCell ⟨a.gE, e * 2 + 1, none⟩ (.int .i64 x)) B M n A a (L.set e x) D := by
  obtain ⟨n1, n2, n3, n4, n5⟩ := h.ne
  have hc : ∀ b o, b ≠ a.gE → (w.setCell ⟨a.gE, e * 2 + 1, none⟩ (.int .i64 x)).cell? ⟨b, o, none⟩ = w.cell? ⟨b, o, none⟩ := fun b o hb => cset_other (fun e => hb (by injection e with e1; exact e1.symm))
  have hf : ∀ b o, (w.setCell ⟨a.gE, e * 2 + 1, none⟩ (.int .i64 x)).frozen? ⟨b, o, none⟩ = w.frozen? ⟨b, o, none⟩ := fun b o => World.frozen?_setCell _ _ _ _
  refine ⟨h.lo, h.hi, h.ne, (hc _ _ n2).trans h.x0, (hc _ _ n2).trans h.x1, (hc _ _ n2).trans h.x2, fun v hv => (hc _ _ n4).trans (h.out v hv), fun v hv => ?_, fun u hu => ⟨(hc _ _ n5).trans (h.dist u hu).1, (hf _ _).trans (h.dist u hu).2⟩, fun k hk => ?_, by simpa using h.len⟩
  · obtain ⟨ao, c, e1, e2⟩ := h.row v hv
    refine ⟨ao, c, e1, fun k e hk => ?_⟩
    obtain ⟨g, o, f1, f2, f3, f4, f5, f6⟩ := e2 k e hk
    exact ⟨g, o, f1, f2, f3, f4, f5, (hc _ _ f5).trans f6⟩
  · obtain ⟨e1, e2, e3, e4, e5⟩ := h.edge k hk
    refine ⟨e1, e2, (cset_other (fun g => by injection g with g1 g2; omega)).trans e3, ?_, (hf _ _).trans e5⟩
    by_cases g : k = e
    · subst g
      rw [cset_same e4]
      have hlt : k < L.length := by rw [h.len]; exact hk
      simp [List.getD_eq_getElem?_getD, List.getElem?_set, hlt]
    · rw [cset_other (fun c => by injection c with g1 g2; omega), e4]
      simp [List.getD_eq_getElem?_getD, List.getElem?_set_ne (fun c => g c.symm)]
theorem Net.congrD {D' : Int → Int} (h : Net w B M n A a L D) (e : ∀ v : Nat, v < n → D v = D' v) : Net w B M n A a L D' :=
  ⟨h.lo, h.hi, h.ne, h.x0, h.x1, h.x2, h.out, h.row, fun v hv => by rw [← e v hv]; exact h.dist v hv, h.edge, h.len⟩
end
end Go.Proofs.Ytphebdmdbnpokaa.FL

