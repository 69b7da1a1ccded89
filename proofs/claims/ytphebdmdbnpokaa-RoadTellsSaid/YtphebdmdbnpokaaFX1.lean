/- The walk of flow.Max. -/
import Derived.Test.YtphebdmdbnpokaaFO3
set_option linter.unusedSimpArgs false
set_option linter.unusedVariables false
namespace Go.Proofs.Ytphebdmdbnpokaa.FL
open Go.RowKit FM

/-- The nodes below n that are in a set, ascending. -/
def sideL (n : Nat) (R : Int → Bool) : List Int := ((List.range n).filter fun (u : Nat) => R (u : Int)).map fun (u : Nat) => (u : Int)
theorem sideL_succ (n : Nat) (R : Int → Bool) : sideL (n + 1) R = sideL n R ++ (if R n then [(n : Int)] else []) := by
  unfold sideL
  rw [List.range_succ, List.filter_append, List.map_append]
  congr 1
  cases h : R n <;> simp [h]
theorem sideL_len (n : Nat) (R : Int → Bool) : (sideL n R).length ≤ n := by
  unfold sideL
  rw [List.length_map]
  exact Nat.le_trans (List.length_filter_le _ _) (by simp)
/-- The value is a slice that reads as these integers. -/
def IntSl (w : World) (v : Value) (l : List Int) : Prop := ∃ ao c, v = .slice ao l.length c ∧ IntsAt w w.heap.size ao l
theorem IntSl.of_row {w : World} {base : Nat} {v : Value} {l : List Int} (h : RowAt w base 3 v (l.map (Value.int .i64))) : IntSl w v l := by
  obtain ⟨ao, c, rfl, hc, h⟩ := h
  rw [List.length_map] at h ⊢
  refine ⟨ao, c, rfl, fun hm => ?_⟩
  rcases h with ⟨_, h2⟩ | ⟨g, o, cur, rfl, h1, h2, h3, h4, h5⟩
  · have : l = [] := by simpa using h2
    subst this; simp at hm
  · have hlt : g < w.heap.size := by
      rcases Nat.lt_or_ge g w.heap.size with q | q
      · exact q
      · rw [Array.getElem?_eq_none q] at h2; cases h2
    refine ⟨g, o, rfl, hlt, fun j hj => ?_⟩
    rw [cell_of_row w g (o + j) cur 3 (0, 0) h2]
    have : ((cur.toList.drop o).take l.length)[j]? = (l.map (Value.int .i64))[j]? := by rw [h5]
    rw [List.getElem?_take_of_lt hj, List.getElem?_drop] at this
    simpa [intF, List.getD_eq_getElem?_getD, hj] using this
theorem IntSl.later {w w' : World} {v : Value} {l : List Int} (h : IntSl w v l) (hb : Below w.heap.size w w') : IntSl w' v l := by
  obtain ⟨ao, c, rfl, h⟩ := h
  exact ⟨ao, c, rfl, (h.below hb).more hb.size⟩
theorem valid_facts {n : Nat} {A : List Arc} {s t : Int} (h : Valid n A s t) : inN n A ∧ (∀ a ∈ A, 0 ≤ a.2.2 ∧ a.2.2 ≤ 1125899906842624) := by
  refine ⟨fun a ha => ?_, fun a ha => ?_⟩ <;> obtain ⟨k, hk⟩ := List.getElem?_of_mem ha <;> obtain ⟨h0, h1, h2, h3, h4, h5⟩ := h.2.2.2.1 k a hk
  · exact ⟨h0, h1, h2, h3⟩
  · exact ⟨h4, h5⟩

def MaxNo (w : World) (e : Ending) (w' : World) : Prop := e = .returned (.tuple #[.int .i64 0, .slice none 0 0, .bool false]) ∧ Below w.heap.size w w'
def MaxYes (w : World) (n : Nat) (A : List Arc) (s t : Int) (e : Ending) (w' : World) : Prop :=
  ∃ f v R vs, e = .returned (.tuple #[.int .i64 v, vs, .bool true]) ∧ MaxOf n A s t f v R ∧ 0 ≤ v ∧ v ≤ 4611686018427387904 ∧ IntSl w' vs (sideL n R) ∧ Below w.heap.size w w'
theorem max_no (n s t : Int) (C : Option Addr) (cc : Nat) (A : List Arc) (w : World) (hC : ArcsAt w w.heap.size C A) (hlen : A.length ≤ 9223372036854775807) (hv : validB n A s t = false) :
    Calls Try.prog 19 #[.int .i64 n, .slice C A.length cc, .int .i64 s, .int .i64 t] w (MaxNo w) := by
  have hcall := Lib.hid (valid_any n s t C cc A w hC hlen)
  have Hv := Lib.hid hv
  clear hv hlen
  go_enter Try.func19, Try.ntmps19
  go_wp2_with (go_at_call 33; refine hcall.out.mono ?_; rintro e1 w1 ⟨rfl, hb⟩; rw [Hv.out])
  go_ret3
  exact ⟨rfl, hb⟩

set_option maxHeartbeats 1000000 in
set_option maxRecDepth 10000 in
theorem max_yes (n s t : Nat) (C : Option Addr) (cc : Nat) (A : List Arc) (w : World) (hC : ArcsAt w w.heap.size C A) (hV : Valid n A s t) :
    Calls Try.prog 19 #[.int .i64 n, .slice C A.length cc, .int .i64 s, .int .i64 t] w (MaxYes w n A s t) := by
  obtain ⟨hA, hcap⟩ := valid_facts hV
  have hV' := hV
  obtain ⟨v1, v2, v3, _, v4, v5, v6, v7, v8⟩ := hV'
  have hcall := Lib.hid (valid_any n s t C cc A w hC (by omega))
  have Hv := Lib.hid (validB_true hV)
  obtain ⟨i0, hi, hz0, hz1, hz2⟩ := info_parts info3
  clear hV
  go_enter Try.func19, Try.ntmps19
  go_wp2_with (go_at_call 33; refine hcall.out.mono ?_; rintro e1 w1 ⟨rfl, hb⟩; rw [Hv.out])
  have hcall2 := Lib.hid (open_any n C cc A w1 ((hC.below hb).more hb.size) v3 hA (by omega))
  go_wp2_with (go_at_call 34; refine hcall2.out.mono ?_; rintro e2 w2 ⟨a, rfl, hN, hb2⟩)
  have hcall3 := Lib.hid (fill_any s t hA v3 hcap (by omega) (by omega) (by omega) (by omega) hN (Nat.le_refl _) (L0_fl fun a ha => (hcap a ha).1))
  have hlo := hN.lo
  have hb3 : Below w.heap.size w w2 := hb.trans (hb2.mono hb.size)
  have hsz := hb3.size
  have hsz2 := hb2.size
  have hsz1 := hb.size
  go_wp2_with (go_at_call 35; refine hcall3.out.mono ?_; rintro e3 w3 ⟨v, L, D, rfl, g0, g1, hF, hB, hD, hN3, hK⟩; have hx2 := hN3.x2)
  have hb4 : Below w.heap.size w w3 := hb3.trans (hK.below hsz (fun k hk => by rcases hk with rfl | rfl <;> omega))
  have hM3 := hK.size
  go_loopw [13, 34] (fun u i wr => ∃ k : Nat, k ≤ n ∧ i = .int .i64 k ∧ RowAt wr w3.heap.size 3 u ((sideL k (fun u => decide (0 ≤ u ∧ u < n ∧ 0 ≤ D u))).map (Value.int .i64)) ∧ Below w3.heap.size w3 wr) (fun _ i _ => n - (intOf i).toNat)
  case atStart => exact ⟨0, Nat.zero_le _, rfl, ⟨none, 0, rfl, by decide, .inl ⟨rfl, rfl⟩⟩, Below.refl _ _⟩
  case round =>
    obtain ⟨k, hk, rfl, hrow, hbr⟩ := hrel
    by_cases hlt : k < n
    · obtain ⟨hd, _⟩ := hN3.dist k hlt
      have hd' : wr.cell? ⟨a.gD, k, none⟩ = some (.int .i64 (D k)) := (hbr.cell (p := ⟨a.gD, k, none⟩) (by have := hN3.hi.2.2; show a.gD < _; omega)).trans hd
      obtain ⟨d, hdd⟩ : ∃ d, d = D k := ⟨_, rfl⟩
      rw [← hdd] at hd'
      have hs := sideL_succ k (fun u => decide (0 ≤ u ∧ u < n ∧ 0 ≤ D u))
      have hln := sideL_len k (fun u => decide (0 ≤ u ∧ u < n ∧ 0 ≤ D u))
      have HH := Lib.hid (And.intro hdd hs)
      obtain ⟨l, hl⟩ : ∃ l, l = sideL k (fun u => decide (0 ≤ u ∧ u < n ∧ 0 ≤ D u)) := ⟨_, rfl⟩
      rw [← hl] at hrow hln
      have Hl := Lib.hid hl
      clear hdd hs hl hd
      by_cases hp : 0 ≤ d
      · go_wp2_with (at_builtin; refine wpList_append_row rfl (.tmp 41) (.tmp 43) 29 rfl w3.heap.size 3 i0 (.int .i64 0) 8 Try.underlying29 hi hz0 hz1 hz2 rfl _ (l.map (Value.int .i64)) rfl ?c1 ⟨wr.heap.size, 0, none⟩ 1 1 [.int .i64 k] rfl rfl ?c2 ?c3 (by decide) ?c4 ?c5 ?c6 ?_)
        case c1 => exact hrow.keep fun b _ hb => Below.heap_alloc wr _ b hb
        case c2 => exact one_new _ _ rfl
        case c3 => intro u hu; simp at hu; subst hu; rfl
        case c4 => simp; unfold maxLen; omega
        case c5 => simp; omega
        case c6 => have := hbr.size; simp; omega
        intro v' w' hrow' hstep
        have hbw : Below w3.heap.size w3 w' := (hbr.alloc hbr.size (.cells #[.int .i64 k] 3)).trans ⟨hstep.os, hstep.tape, hstep.output, hstep.size, fun b hb => hstep.block b (by have := hbr.size; simp; omega) hb⟩
        clear hstep hrow hbr
        go_wp2
        go_roundw
        case rel =>
          obtain ⟨h1, h2⟩ := HH.out
          refine ⟨k + 1, by omega, by go_num, ?_, hbw⟩
          rw [h2, ← Hl.out, if_pos (decide_eq_true ⟨by omega, by omega, by omega⟩)]
          simpa using hrow'
        case measure => simp [intOf]; omega
      · go_wp2_with fail
        go_roundw
        case rel =>
          obtain ⟨h1, h2⟩ := HH.out
          refine ⟨k + 1, by omega, by go_num, ?_, hbr⟩
          rw [h2, ← Hl.out, if_neg (by rw [decide_eq_true_iff]; omega)]
          simpa using hrow
        case measure => simp [intOf]; omega
    · obtain rfl : n = k := by omega
      go_wp2_with fail
      go_ret3
      exact ⟨_, v, _, _, rfl, max_of_dist hA hF.res hF.keeps hF.value (by omega) (by omega) hB.dist hD, g0, g1, IntSl.of_row hrow, hb4.trans (hbr.mono (hb4.size))⟩
end Go.Proofs.Ytphebdmdbnpokaa.FL
