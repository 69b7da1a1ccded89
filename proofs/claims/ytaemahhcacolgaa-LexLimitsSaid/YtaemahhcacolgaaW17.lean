/- The walk of tokens: the sequence that the scanner visits. -/
import Derived.RangeFuncNested
import Derived.RangeFuncBound
import Derived.RangeFuncCalls
import Derived.RangeFuncLeaves
import Derived.Shelf.Abstract
import Derived.Shelf.RegionOpen
import Derived.OwnWalkIn
import Derived.TacticsInMore
import Derived.LoopNIn
import Derived.LoopIn
import Derived.Test.YtaemahhcacolgaaW14
namespace Go.Proofs.Ytaemahhcacolgaa
open Go.RowKit Go.Shelf LX
attribute [local go_sem] Oper.semAt_some

theorem grown_below {w w' : World} (h : Below w.heap.size w w') : w.grownBy w' none := ⟨h.os, h.tape, h.output, h.size, fun k hk _ => h.block k hk⟩
theorem abides_below {β : Type} {B : Nat} {J : β → World → Prop} (hJ : AbidesFrom B J) {s : β} {w w' : World} (h : J s w) (hb : Below w.heap.size w w') : J s w' :=
  hJ s w w' none h (grown_below hb) (fun _ e => by cases e)
/-- What yield is handed: a token, and whether it is one. -/
abbrev TB := Tok × Bool
def encsT (x : TB) : Array Value := #[tokV x.1.kind x.1.text x.1.pos, .bool x.2]
/-- The whole sequence: the tokens; where there is an error, what stands there. -/
def seqT (l : List UInt8) (ts : List Tok) (err : Option Nat) : List TB :=
  ts.map (fun t => (t, true)) ++ match err with | none => [] | some p => [(⟨(tokL (l.drop p)).kind, (tokL (l.drop p)).text, p⟩, false)]
def KpB (B : Nat) (W W' : World) : Prop := W'.heap[B]? = W.heap[B]? ∧ W.heap.size ≤ W'.heap.size
/-- What is still to come from an offset on. -/
structure Rest (s : ByteArray) (full : List TB) (pre : List TB) (q : Nat) : Prop where
  le : q ≤ s.size
  sc : ∃ ts err, Sc (s.data.toList.drop q) q ts err ∧ full = pre ++ seqT s.data.toList ts err
theorem Rest.cases {s : ByteArray} {full pre : List TB} {q : Nat} (h : Rest s full pre q) :
    (s.size ≤ q + skipC false (s.data.toList.drop q) ∧ q + skipC false (s.data.toList.drop q) = s.size ∧ full = pre ++ [(⟨4, [], s.size⟩, true)]) ∨
    (q + skipC false (s.data.toList.drop q) < s.size ∧ (tokL (s.data.toList.drop (q + skipC false (s.data.toList.drop q)))).ok = false ∧ full = pre ++ [(⟨(tokL (s.data.toList.drop (q + skipC false (s.data.toList.drop q)))).kind, (tokL (s.data.toList.drop (q + skipC false (s.data.toList.drop q)))).text, q + skipC false (s.data.toList.drop q)⟩, false)]) ∨
    (q + skipC false (s.data.toList.drop q) < s.size ∧ (tokL (s.data.toList.drop (q + skipC false (s.data.toList.drop q)))).ok = true ∧ 0 < (tokL (s.data.toList.drop (q + skipC false (s.data.toList.drop q)))).n ∧ pre.length < full.length ∧
      Rest s full (pre ++ [(⟨(tokL (s.data.toList.drop (q + skipC false (s.data.toList.drop q)))).kind, (tokL (s.data.toList.drop (q + skipC false (s.data.toList.drop q)))).text, q + skipC false (s.data.toList.drop q)⟩, true)]) (q + skipC false (s.data.toList.drop q) + (tokL (s.data.toList.drop (q + skipC false (s.data.toList.drop q)))).n)) := by
  obtain ⟨hle, ts, err, hs, hf⟩ := h
  have hk := skipC_le false (s.data.toList.drop q)
  simp only [List.length_drop, Array.length_toList] at hk
  have hsz : s.data.size = s.size := rfl
  have hd : (s.data.toList.drop q).drop (skipC false (s.data.toList.drop q)) = s.data.toList.drop (q + skipC false (s.data.toList.drop q)) := by rw [List.drop_drop]
  generalize hL : s.data.toList.drop q = L at *
  cases hs with
  | fin _ _ h0 =>
    left
    have : L.length ≤ skipC false L := by rw [List.drop_eq_nil_iff] at h0; exact h0
    have hl : L.length = s.size - q := by rw [← hL]; simp
    refine ⟨by omega, by omega, ?_⟩
    rw [hf]
    simp only [seqT, List.map_cons, List.map_nil, List.append_nil]
    rw [show q + L.length = s.size by omega]
  | bad _ _ h0 h1 =>
    right; left
    rw [hd] at h0 h1
    have : q + skipC false L < s.size := by
      have h2 : s.data.toList.drop (q + skipC false L) ≠ [] := h0
      rw [Ne, List.drop_eq_nil_iff] at h2
      simp at h2; omega
    exact ⟨this, h1, by rw [hf]; rfl⟩
  | tok _ _ r us e h0 h1 h2 h3 =>
    right; right
    subst h1
    rw [hd] at h0 h2 h3 hf
    have h4 : q + skipC false L < s.size := by
      rw [Ne, List.drop_eq_nil_iff] at h0
      simp at h0; omega
    have hn := tok_pos h2
    have hn2 := tok_le h2
    simp only [List.length_drop, Array.length_toList] at hn2
    refine ⟨h4, h2, hn, by rw [hf]; simp [seqT], by omega, us, err, ?_, ?_⟩
    · rwa [List.drop_drop] at h3
    · rw [hf]; simp [seqT]
theorem Rest.pre {s : ByteArray} {full pre : List TB} {q : Nat} (h : Rest s full pre q) : pre <+: full := by
  obtain ⟨_, ts, err, _, h⟩ := h
  exact ⟨_, h.symm⟩
set_option maxRecDepth 100000 in
set_option maxHeartbeats 2000000 in
theorem tokens1_in (n : Nat) (hn : 1 ≤ n) (l Bn : Nat) (s : ByteArray) (hs : s.size ≤ 1000000) (full : List TB) (hfull : Rest s full [] 0) (J Jx : List TB → World → Prop) (W : World) (hJ : AbidesFrom W.heap.size J)
    (hY : ∀ pre x W, J pre W → pre.length < full.length → YieldAt Fence.wide (n - 1) Try.prog l (encsT x) W fun e W' =>
      (e = .returned (.bool true) ∧ J (pre ++ [x]) W' ∧ KpB Bn W W') ∨ (e = .returned (.bool false) ∧ Jx (pre ++ [x]) W'))
    (hBl : Bn < W.heap.size) (hBn : W.cell? ⟨Bn, 0, none⟩ = some (.string s)) (h0 : J [] W) :
    CallsIn Fence.wide n Try.prog 20 #[.func (.yield l) #[] #[], .pointer (some ⟨Bn, 0, none⟩)] W fun e W' => (∃ v, e = .returned v) ∧
      ((∃ ys, ys = full ∧ J ys W') ∨ (∃ pre, pre <+: full ∧ Jx pre W')) := by
  have K1 := Lib.hid fun a wx (ha : a ≤ s.size) => skip_any s a wx (by omega) ha
  have K2 := Lib.hid fun a wx (ha : a < s.size) => token_any s a wx hs ha
  unfold SkipIs at K1
  unfold TokIs tokV at K2
  refine callsIn_of_wp Try.func20 rfl trivial ?_ rfl
  simp only [Try.ntmps20, List.size_toArray, List.length_cons, List.length_nil, Nat.reduceAdd, Nat.reduceSub, Array.replicate_succ, Array.replicate_zero, List.push_toArray, List.append_toArray, List.nil_append, List.cons_append]
  gi_wp2_with (refine ⟨trivial, ?_⟩; gi_at_call 21; refine (callsIn_wide.2 (K1.out 0 _ (Nat.zero_le _))).mono ?_; rintro e w1 ⟨rfl, rfl⟩)
  gi_loopw [3] (fun at_ wr => ∃ (pre : List TB) (q : Nat), at_ = .int .i64 ((q + skipC false (s.data.toList.drop q) : Nat) : Int) ∧ Hid (Rest s full pre q) ∧ J pre wr ∧ wr.cell? ⟨Bn, 0, none⟩ = some (.string s) ∧ W.heap.size ≤ wr.heap.size)
    (fun at_ _ => s.size - (intOf at_).toNat)
  case atStart => exact ⟨[], 0, by simp, hfull, h0, by first | exact hBn | simp_all, by first | exact Nat.le_refl _ | simp⟩
  case round =>
    obtain ⟨pre, q, rfl, hR, hJs, hcell, hsz⟩ := hrel
    have hcs := hR.out.cases
    clear hR
    obtain ⟨a, ha⟩ : ∃ a, q + skipC false (s.data.toList.drop q) = a := ⟨_, rfl⟩
    simp only [ha] at hcs ⊢
    clear ha
    rcases hcs with ⟨h1, h2, h3⟩ | ⟨h1, h2, h3⟩ | ⟨h1, h2, h3, h4, h5⟩
    · have hf := Lib.hid h3
      have hlt : ¬ a < s.size := by omega
      obtain rfl := h2
      obtain ⟨fn, tmps, assign, body, hy, hYR⟩ := hY pre (⟨4, [], s.size⟩, true) wr hJs (by rw [h3]; simp)
      dsimp only [encsT, tokV] at hy
      rw [show bs [] = (⟨#[]⟩ : ByteArray) from rfl] at hy
      clear h3 h1
      gi_wp2
      refine hYR.mono ?_
      rintro e W3 (⟨rfl, hJ3, hk3⟩ | ⟨rfl, hJx3⟩)
      · gi_wp2
        go_end0
        exact ⟨⟨_, rfl⟩, .inl ⟨_, hf.out.symm, hJ3⟩⟩
      · gi_wp2
        go_end0
        exact ⟨⟨_, rfl⟩, .inr ⟨_, by rw [hf.out]; exact List.prefix_refl _, hJx3⟩⟩
    · have hf := Lib.hid h3
      have K3 := fun wx => K2.out a wx h1
      obtain ⟨r, hr⟩ : ∃ r, tokL (s.data.toList.drop a) = r := ⟨_, rfl⟩
      simp only [hr] at K3 hf h2
      rw [h2] at K3
      have K3 := Lib.hid K3
      clear h3
      clear K2 hr h2
      gi_wp2_with (first | (refine ⟨trivial, ?_⟩; gi_at_call 22; refine (callsIn_wide.2 (K3.out _)).mono ?_; rintro e w1 ⟨rfl, hb⟩; obtain ⟨fn, tmps, assign, body, hy, hYR⟩ := hY pre (⟨r.kind, r.text, a⟩, false) (w1.alloc (.cells #[.int .i64 r.kind, .string (bs r.text), .int .i64 a] 32)) (abides_below hJ hJs (hb.alloc hb.size _)) (by rw [hf.out]; simp); dsimp only [encsT, tokV] at hy; have hcell1 := (hb.cell (p := ⟨Bn, 0, none⟩) (by show Bn < _; omega)).trans hcell) | fail)
      refine hYR.mono ?_
      rintro e W3 (⟨rfl, hJ3, hk3⟩ | ⟨rfl, hJx3⟩)
      · gi_wp2
        refine bodyPost_ret (results_none rfl _ _ _) rfl ?_
        exact ⟨⟨_, rfl⟩, .inl ⟨_, hf.out.symm, hJ3⟩⟩
      · gi_wp2
        refine bodyPost_ret (results_none rfl _ _ _) rfl ?_
        exact ⟨⟨_, rfl⟩, .inr ⟨_, by rw [hf.out]; exact List.prefix_refl _, hJx3⟩⟩
    · have K3 := fun wx => K2.out a wx h1
      obtain ⟨r, hr⟩ : ∃ r, tokL (s.data.toList.drop a) = r := ⟨_, rfl⟩
      simp only [hr] at K3 h2 h3 h5
      rw [h2] at K3
      have K3 := Lib.hid K3
      have hf := Lib.hid h5
      have hle := h5.le
      clear h5
      clear K2 hr h2
      gi_wp2_with (first | (refine ⟨trivial, ?_⟩; gi_at_call 22; refine (callsIn_wide.2 (K3.out _)).mono ?_; rintro e w1 ⟨rfl, hb⟩; obtain ⟨fn, tmps, assign, body, hy, hYR⟩ := hY pre (⟨r.kind, r.text, a⟩, true) (w1.alloc (.cells #[.int .i64 r.kind, .string (bs r.text), .int .i64 a] 32)) (abides_below hJ hJs (hb.alloc hb.size _)) (by exact h4); dsimp only [encsT, tokV] at hy; have hcell1 := (hb.cell (p := ⟨Bn, 0, none⟩) (by show Bn < _; omega)).trans hcell) | fail)
      refine hYR.mono ?_
      rintro e W3 (⟨rfl, hJ3, hk3⟩ | ⟨rfl, hJx3⟩)
      · have hcell3 : W3.cell? ⟨Bn, 0, none⟩ = some (.string s) := by
          rw [World.cell?_of_block (a := ⟨Bn, 0, none⟩) hk3.1, World.cell?_alloc_past _ _ _ (by have := hb.size; omega)]; exact hcell1
        have K4 := Lib.hid fun wx => K1.out (a + r.n) wx hle
        gi_wp2_with (first | (refine ⟨trivial, ?_⟩; gi_at_call 21; refine (callsIn_wide.2 (K4.out _)).mono ?_; rintro e w5 ⟨rfl, rfl⟩) | fail)
        go_roundw
        case rel => exact ⟨_, a + r.n, by go_num, hf, hJ3, hcell3, by have := hk3.2; have := hb.size; simp at *; omega⟩
        case measure => simp [intOf]; omega
      · gi_wp2
        refine bodyPost_ret (results_none rfl _ _ _) rfl ?_
        exact ⟨⟨_, rfl⟩, .inr ⟨_, hf.out.pre, hJx3⟩⟩
theorem rest_start (s : ByteArray) {ts : List Tok} {err : Option Nat} (h : Sc s.data.toList 0 ts err) : Rest s (seqT s.data.toList ts err) [] 0 := ⟨Nat.zero_le _, ts, err, h, rfl⟩
set_option maxHeartbeats 1000000 in
theorem tokens_in (n : Nat) (s : ByteArray) (w : World) :
    CallsIn Fence.wide n Try.prog 16 #[.string s] w fun e w' => e = .returned (.func (.func 20) #[] #[.pointer (some ⟨w.heap.size, 0, none⟩)]) ∧ w' = w.alloc (.cells #[.string s] 9) := by
  refine callsIn_of_wp Try.func16 rfl trivial ?_ rfl
  simp only [Try.ntmps16, List.size_toArray, List.length_cons, List.length_nil, Nat.reduceAdd, Nat.reduceSub, Array.replicate_succ, Array.replicate_zero, List.push_toArray, List.append_toArray, List.nil_append, List.cons_append]
  gi_wp2
  go_ret
  exact ⟨rfl, rfl⟩
theorem tokens_stops (n : Nat) (hn : 1 ≤ n) (Bn : Nat) (s : ByteArray) (hs : s.size ≤ 1000000) (full : List TB) (hfull : Rest s full [] 0) (w : World) (hBl : Bn < w.heap.size) (hBn : w.cell? ⟨Bn, 0, none⟩ = some (.string s)) :
    SeqStopsK Fence.wide n Try.prog 20 #[.pointer (some ⟨Bn, 0, none⟩)] encsT (KpB Bn) (fun ys => ys = full) (fun pre => pre <+: full) full.length w := fun l J Jx W hW hJ _ hY h0 =>
  tokens1_in n hn l Bn s hs full hfull J Jx W hJ hY (Nat.lt_of_lt_of_le hBl hW.size) ((hW.cell (p := ⟨Bn, 0, none⟩) hBl).trans hBn) h0
theorem kpB_t {Bn : Nat} {A B C : World} (h : KpB Bn A B) (k : KpB Bn B C) : KpB Bn A C := ⟨k.1.trans h.1, Nat.le_trans h.2 k.2⟩
theorem kpB_b {Bn : Nat} {w : World} (hn : Bn < w.heap.size) (W : World) (l : Nat) (o o' : Obj) (hl : w.heap.size ≤ l) (h : W.heap[l]? = some o) (_ : o.isCells = false) (_ : o.isWalk = false) : KpB Bn W (W.putObj l o') :=
  ⟨World.putObj_heap_other (by omega), (grownBy_putObj' W l o').size⟩
end Go.Proofs.Ytaemahhcacolgaa
