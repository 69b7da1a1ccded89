/- The walk of records: the sequence of a text's rows, each with the end of its record. -/
import Derived.RangeFuncNested
import Derived.RangeFuncBound
import Derived.RangeFuncCalls
import Derived.RangeFuncLeaves
import Derived.Shelf.Abstract
import Derived.Shelf.RegionOpen
import Derived.OwnWalkIn
import Derived.TacticsInMore
import Derived.LoopNIn
import Derived.LoopIn
import Derived.Test.YtmnimcdbfolhaaaV3
set_option linter.unusedSimpArgs false
set_option linter.unusedVariables false
namespace Go.Proofs.Ytmnimcdbfolhaaa
open Go.RowKit Go.Shelf DK
attribute [local go_sem] Oper.semAt_some
theorem abides_below {β : Type} {B : Nat} {J : β → World → Prop} (hJ : AbidesFrom B J) {s : β} {w w' : World} (h : J s w) (hb : Below w.heap.size w w') : J s w' :=
  hJ s w w' none h (grown_below hb) (fun _ e => by cases e)
abbrev TE := Nat × Bts
def encsE (x : TE) : Array Value := #[.int .i64 (x.1 : Int), .string (bs x.2)]
def seqE : Nat → List Bts → List TE
  | _, [] => []
  | a, x :: l => (a + (x.length + 7), x) :: seqE (a + (x.length + 7)) l
theorem seqE_len : ∀ (a : Nat) (l : List Bts), (seqE a l).length = l.length
  | _, [] => rfl
  | a, x :: l => congrArg (· + 1) (seqE_len (a + (x.length + 7)) l)
theorem seqE_rows : ∀ (a : Nat) (l : List Bts), (seqE a l).map (fun y : TE => y.2) = l
  | _, [] => rfl
  | a, x :: l => congrArg (x :: ·) (seqE_rows (a + (x.length + 7)) l)
theorem seqE_last : ∀ (a : Nat) (l : List Bts), ((seqE a l).map (fun y : TE => y.1)).getLastD a = a + (recs l).length
  | a, [] => by simp [seqE, recs]
  | a, x :: l => by
    have h := seqE_last (a + (x.length + 7)) l
    rw [recs_cons, List.length_append, recd_len, ← Nat.add_assoc, ← h]
    simp only [seqE, List.map_cons]
    cases hl : (seqE (a + (x.length + 7)) l).map (fun y : TE => y.1) with
    | nil => rfl
    | cons u v => simp [List.getLastD]
def KpB (B : Nat) (W W' : World) : Prop := W'.heap[B]? = W.heap[B]? ∧ W.heap.size ≤ W'.heap.size
structure RestE (s : Bts) (full pre : List TE) (q : Nat) : Prop where
  le : q ≤ s.length
  sc : ∃ R, DK.Rows (s.drop q) R ∧ full = pre ++ seqE q R
theorem rows_nil {s : Bts} {R : List Bts} (h : DK.Rows s R) (hT : rowT s = false) : R = [] := by
  cases R with
  | nil => rfl
  | cons x l =>
    obtain ⟨t, e, _⟩ := h.cut
    rw [recs_cons, List.append_assoc] at e
    exact absurd ⟨h.len x (by simp), _, e⟩ (noRow_of hT x)
theorem rows_next {s : Bts} {R : List Bts} (h : DK.Rows s R) (hT : rowT s = true) : (rowX s).length + 7 ≤ s.length ∧ (rowX s).length ≤ 1048576 ∧ ∃ R', R = rowX s :: R' ∧ DK.Rows (s.drop ((rowX s).length + 7)) R' := by
  have hx : Row s (rowX s) := by unfold rowX; rw [hT]; exact rowT_row hT
  obtain ⟨hl, t, e⟩ := id hx
  have hlen : (rowX s).length + 7 ≤ s.length := by rw [congrArg List.length e, List.length_append, recd_len]; omega
  have hd : s.drop ((rowX s).length + 7) = t := by
    have := List.drop_left (l₁ := recd (rowX s)) (l₂ := t)
    rw [recd_len, ← e] at this; exact this
  obtain ⟨R', hR'⟩ := rows_of t
  obtain ⟨u, e2, hu⟩ := hR'.cut
  refine ⟨hlen, hl, R', h.uniq ⟨fun y hy => ?_, u, ?_, hu⟩, by rw [hd]; exact hR'⟩
  · rcases List.mem_cons.1 hy with rfl | hy
    · exact hl
    · exact hR'.len y hy
  · rw [recs_cons, List.append_assoc, ← e2]; exact e
theorem RestE.cases {s : Bts} {full pre : List TE} {q : Nat} (h : RestE s full pre q) :
    (rowT (s.drop q) = false ∧ full = pre) ∨ (rowT (s.drop q) = true ∧ q + ((rowX (s.drop q)).length + 7) ≤ s.length ∧ pre.length < full.length ∧ RestE s full (pre ++ [(q + ((rowX (s.drop q)).length + 7), rowX (s.drop q))]) (q + ((rowX (s.drop q)).length + 7))) := by
  obtain ⟨hle, R, hR, hf⟩ := h
  cases hT : rowT (s.drop q)
  · obtain rfl := rows_nil hR hT
    exact .inl ⟨rfl, by rw [hf]; simp [seqE]⟩
  · obtain ⟨h1, h2, R', rfl, hR'⟩ := rows_next hR hT
    rw [List.length_drop] at h1
    have h1' : q + ((rowX (s.drop q)).length + 7) ≤ s.length := by omega
    refine .inr ⟨rfl, h1', by rw [hf]; simp [seqE], h1', R', ?_, ?_⟩
    · rw [List.drop_drop] at hR'; exact hR'
    · rw [hf]; simp [seqE]
theorem RestE.pre {s : Bts} {full pre : List TE} {q : Nat} (h : RestE s full pre q) : pre <+: full := by
  obtain ⟨_, R, _, h⟩ := h
  exact ⟨_, h.symm⟩
theorem rest_begin {s : Bts} {R : List Bts} (h : DK.Rows s R) : RestE s (seqE 0 R) [] 0 := ⟨Nat.zero_le _, R, h, rfl⟩
set_option maxRecDepth 100000 in
set_option maxHeartbeats 2000000 in
theorem records1_in (n : Nat) (hn : 1 ≤ n) (l Bn : Nat) (s : Bts) (hs : s.length ≤ 1000000000) (full : List TE) (hfull : RestE s full [] 0) (J Jx : List TE → World → Prop) (W : World) (hJ : AbidesFrom W.heap.size J)
    (hY : ∀ pre x W, J pre W → pre.length < full.length → YieldAt Fence.wide (n - 1) Try.prog l (encsE x) W fun e W' =>
      (e = .returned (.bool true) ∧ J (pre ++ [x]) W' ∧ KpB Bn W W') ∨ (e = .returned (.bool false) ∧ Jx (pre ++ [x]) W'))
    (hBl : Bn < W.heap.size) (hBn : W.cell? ⟨Bn, 0, none⟩ = some (.string (bs s))) (h0 : J [] W) :
    CallsIn Fence.wide n Try.prog 63 #[.func (.yield l) #[] #[], .pointer (some ⟨Bn, 0, none⟩)] W fun e W' => (∃ v, e = .returned v) ∧
      ((∃ ys, ys = full ∧ J ys W') ∨ (∃ pre, pre <+: full ∧ Jx pre W')) := by
  have z1 := bs_size s
  have K1 := Lib.hid fun (x : Bts) wx (hx : x.length ≤ 1000000000) => row_any x wx (by omega)
  refine callsIn_of_wp Try.func63 rfl trivial ?_ rfl
  simp only [Try.ntmps63, List.size_toArray, List.length_cons, List.length_nil, Nat.reduceAdd, Nat.reduceSub, Array.replicate_succ, Array.replicate_zero, List.push_toArray, List.append_toArray, List.nil_append, List.cons_append]
  gi_wp2_with fail
  gi_loopw [3] (fun at_ wr => ∃ (pre : List TE) (q : Nat), at_ = .int .i64 (q : Int) ∧ Hid (RestE s full pre q) ∧ J pre wr ∧ wr.cell? ⟨Bn, 0, none⟩ = some (.string (bs s)) ∧ W.heap.size ≤ wr.heap.size)
    (fun at_ _ => s.length - (intOf at_).toNat)
  case atStart => exact ⟨[], 0, by simp, hfull, h0, by first | exact hBn | simp_all, by first | exact Nat.le_refl _ | simp⟩
  case round =>
    obtain ⟨pre, q, rfl, hR, hJs, hcell, hsz⟩ := hrel
    have hq := hR.out.le
    have hcs := hR.out.cases
    clear hR
    have X1 : (bs s).extract q s.length = bs (s.drop q) := by rw [bs_cut _ _ _ (Nat.le_refl _), List.take_length]
    have K2 := fun wx => K1.out (s.drop q) wx (by rw [List.length_drop]; omega)
    obtain ⟨D, hD⟩ : ∃ D, s.drop q = D := ⟨_, rfl⟩
    rw [hD] at X1
    simp only [hD] at K2 hcs
    have q1 : q ≤ (bs s).size := by omega
    rcases hcs with ⟨hT, hf⟩ | ⟨hT, h2, h3, h4⟩
    · have hf := Lib.hid hf
      rw [hT] at K2
      have K2 := Lib.hid K2
      gi_wp2_with (first | (refine ⟨trivial, ?_⟩; gi_at_call 64; refine (callsIn_wide.2 (K2.out _)).mono ?_; rintro e w1 ⟨rfl, hb⟩) | fail)
      refine bodyPost_ret (results_none rfl _ _ _) rfl ?_
      exact ⟨⟨_, rfl⟩, .inl ⟨_, hf.out.symm, abides_below hJ hJs hb⟩⟩
    · rw [hT] at K2
      have K2 := Lib.hid K2
      have hf := Lib.hid h4
      have hle := h4.le
      clear h4
      obtain ⟨r, hr⟩ : ∃ r, rowX D = r := ⟨_, rfl⟩
      simp only [hr] at K2 hf h2 hle
      have z2 := bs_size r
      have z3 : (4 : Int) + (r.length : Int) + 3 = ((r.length + 7 : Nat) : Int) := by omega
      have z4 : ((q + (r.length + 7) : Nat) : Int) = (q : Int) + ((r.length : Int) + 7) := by omega
      clear hT hr hD
      gi_wp2_with (first | (refine ⟨trivial, ?_⟩; gi_at_call 64; refine (callsIn_wide.2 (K2.out _)).mono ?_; rintro e w1 ⟨rfl, hb⟩; obtain ⟨fn, tmps, assign, body, hy, hYR⟩ := hY pre (q + (r.length + 7), r) w1 (abides_below hJ hJs hb) h3; dsimp only [encsE] at hy; rw [z4] at hy; have hcell1 := (hb.cell (p := ⟨Bn, 0, none⟩) (by show Bn < _; omega)).trans hcell) | fail)
      refine hYR.mono ?_
      rintro e W3 (⟨rfl, hJ3, hk3⟩ | ⟨rfl, hJx3⟩)
      · have hcell3 : W3.cell? ⟨Bn, 0, none⟩ = some (.string (bs s)) := by
          rw [World.cell?_of_block (a := ⟨Bn, 0, none⟩) hk3.1]; exact hcell1
        gi_wp2
        go_roundw
        case rel => exact ⟨_, q + (r.length + 7), by go_num, hf, hJ3, hcell3, by have := hk3.2; have := hb.size; omega⟩
        case measure => simp [intOf]; omega
      · gi_wp2
        refine bodyPost_ret (results_none rfl _ _ _) rfl ?_
        exact ⟨⟨_, rfl⟩, .inr ⟨_, hf.out.pre, hJx3⟩⟩
set_option maxHeartbeats 1000000 in
theorem records_in (n : Nat) (s : ByteArray) (w : World) :
    CallsIn Fence.wide n Try.prog 41 #[.string s] w fun e w' => e = .returned (.func (.func 63) #[] #[.pointer (some ⟨w.heap.size, 0, none⟩)]) ∧ w' = w.alloc (.cells #[.string s] 9) := by
  refine callsIn_of_wp Try.func41 rfl trivial ?_ rfl
  simp only [Try.ntmps41, List.size_toArray, List.length_cons, List.length_nil, Nat.reduceAdd, Nat.reduceSub, Array.replicate_succ, Array.replicate_zero, List.push_toArray, List.append_toArray, List.nil_append, List.cons_append]
  gi_wp2
  go_ret
  exact ⟨rfl, rfl⟩
theorem records_stops (n : Nat) (hn : 1 ≤ n) (Bn : Nat) (s : Bts) (hs : s.length ≤ 1000000000) (full : List TE) (hfull : RestE s full [] 0) (w : World) (hBl : Bn < w.heap.size) (hBn : w.cell? ⟨Bn, 0, none⟩ = some (.string (bs s))) :
    SeqStopsK Fence.wide n Try.prog 63 #[.pointer (some ⟨Bn, 0, none⟩)] encsE (KpB Bn) (fun ys => ys = full) (fun pre => pre <+: full) full.length w := fun l J Jx W hW hJ _ hY h0 =>
  records1_in n hn l Bn s hs full hfull J Jx W hJ hY (Nat.lt_of_lt_of_le hBl hW.size) ((hW.cell (p := ⟨Bn, 0, none⟩) hBl).trans hBn) h0
theorem kpB_t {Bn : Nat} {A B C : World} (h : KpB Bn A B) (k : KpB Bn B C) : KpB Bn A C := ⟨k.1.trans h.1, Nat.le_trans h.2 k.2⟩
theorem kpB_b {Bn : Nat} {w : World} (hn : Bn < w.heap.size) (W : World) (l : Nat) (o o' : Obj) (hl : w.heap.size ≤ l) (h : W.heap[l]? = some o) (_ : o.isCells = false) (_ : o.isWalk = false) : KpB Bn W (W.putObj l o') :=
  ⟨World.putObj_heap_other (by omega), (grownBy_putObj' W l o').size⟩
end Go.Proofs.Ytmnimcdbfolhaaa
