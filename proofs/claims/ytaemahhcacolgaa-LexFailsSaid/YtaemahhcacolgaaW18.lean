/- The walk of Scan. -/
import Derived.Test.YtaemahhcacolgaaW17
import Derived.Maps.AppendAt
namespace Go.Proofs.Ytaemahhcacolgaa
open Go.RowKit Go.Shelf LX
attribute [local go_sem] Oper.semAt_some

theorem Try.infoTok : (Try.prog.info? 32).map (fun i => (i.zero, i.size, i.bytes)) = some (some (.agg #[.int .i64 0, .string ⟨#[]⟩, .int .i64 0]), 3, 32) := by kernel_rfl
def tokC (t : Tok) : List Value := [.int .i64 t.kind, .string (bs t.text), .int .i64 (t.pos : Int)]
def rowC (ts : List Tok) : List Value := ts.flatMap tokC
theorem rowC_len (ts : List Tok) : (rowC ts).length = ts.length * 3 := by
  unfold rowC
  induction ts with
  | nil => rfl
  | cons t ts ih => simp [List.flatMap_cons, tokC] at ih ⊢; omega
theorem rowC_snoc (ts : List Tok) (t : Tok) : rowC (ts ++ [t]) = rowC ts ++ tokC t := by simp [rowC]
theorem rowC_get : ∀ (ts : List Tok) (j : Nat), j < ts.length * 3 → (rowC ts)[j]? = some (tokF (ts.map mt) j)
  | [], j, h => by simp at h
  | t :: ts, 0, _ => rfl
  | t :: ts, 1, _ => rfl
  | t :: ts, 2, _ => rfl
  | t :: ts, j + 3, h => by
    have ih := rowC_get ts j (by simp at h; omega)
    have e1 : rowC (t :: ts) = tokC t ++ rowC ts := rfl
    rw [e1, List.getElem?_append_right (by simp [tokC])]
    rw [show j + 3 - (tokC t).length = j by simp [tokC], ih]
    congr 1
    unfold tokF
    rw [show (j + 3) % 3 = j % 3 by omega, show (j + 3) / 3 = j / 3 + 1 by omega]
    rfl
theorem toks_of_owns {w : World} {base e : Nat} {v : Value} {ts : List Tok} (h : w.ownsRow base e 3 v ts.length (rowC ts)) : ∃ C cc, v = .slice C ts.length cc ∧ ToksAt w w.heap.size C (ts.map mt) := by
  obtain ⟨h1, ⟨rfl, h0⟩ | ⟨g, cap, cur, rfl, h2, h3, h4, h5, h6, h7⟩⟩ := h
  · obtain rfl : ts = [] := List.eq_nil_of_length_eq_zero h0
    exact ⟨none, 0, rfl, fun h => absurd h (by simp)⟩
  · refine ⟨_, cap, rfl, fun _ => ⟨g, 0, rfl, ?_, fun j hj => ?_⟩⟩
    · rcases Nat.lt_or_ge g w.heap.size with h | h
      · exact h
      · rw [Array.getElem?_eq_none h] at h3; cases h3
    · have hj : j < ts.length * 3 := by simp at hj; omega
      rw [Nat.zero_add, cell_of_row w g j cur e (0, 0) h3]
      have := rowC_get ts j hj
      rw [← h7, List.getElem?_take_of_lt hj] at this
      simpa using this
def ScanIs (s : ByteArray) (ts : List Tok) (err : Option Nat) (w : World) (e : Ending) (w' : World) : Prop :=
  Below w.heap.size w w' ∧ ((err = none ∧ ∃ C cc, e = .returned (.tuple #[.slice C ts.length cc, .int .i64 0, .int .i64 0]) ∧ ToksAt w' w'.heap.size C (ts.map mt)) ∨ (∃ p : Nat, err = some p ∧ e = .returned (.tuple #[.slice none 0 0, .int .i64 2, .int .i64 p])))
theorem scan_full (s : ByteArray) (w : World) (h : 65536 < s.size) (hs : s.size ≤ 9223372036854775807) :
    Calls Try.prog 10 #[.string s] w fun e w' => e = .returned (.tuple #[.slice none 0 0, .int .i64 8, .int .i64 0]) ∧ Below w.heap.size w w' := by
  have h' : (65536 : Int) < (s.size : Int) := by omega
  go_enter Try.func10, Try.ntmps10
  go_wp2_with fail
  refine bodyPost_ret (v := .tuple #[.slice none 0 0, .int .i64 8, .int .i64 0]) (by simp [results, Try.results10, go_sem]) rfl ⟨rfl, ?_⟩
  exact (((Below.refl _ _).alloc (Nat.le_refl _) _).alloc (by simp) _).alloc (by simp; omega) _
theorem boxed_kept {X Y : World} {row : Option Nat} {B t : Nat} {v : Value} (h : Boxed X B t v) (hg : X.grownBy Y row) (hrow : ∀ r, row = some r → ∃ o : Obj, X.heap[r]? = some o ∧ o.isCells = false) : Boxed Y B t v :=
  boxed_own B t (fun _ : Unit => v) () X Y row h hg hrow
/-- A block of one token. -/
def BoxT (W : World) (B e : Nat) (x : Tok) : Prop := W.heap[B]? = some (.cells #[.int .i64 x.kind, .string (bs x.text), .int .i64 (x.pos : Int)] e (0, 0))
theorem boxT_own (B e : Nat) (x : Tok) : Own (fun (_ : Unit) W => BoxT W B e x) := fun s X Y row hs hg hrow => by
  refine (grownBy_keeps_cells hg hrow (show X.heap[B]? = _ from hs) rfl).trans hs
theorem BoxT.cells {W : World} {B e : Nat} {x : Tok} (h : BoxT W B e x) : W.cell? ⟨B, 0, none⟩ = some (.int .i64 x.kind) ∧ W.cell? ⟨B, 1, none⟩ = some (.string (bs x.text)) ∧ W.cell? ⟨B, 2, none⟩ = some (.int .i64 (x.pos : Int)) := by
  have h : W.heap[B]? = _ := h
  refine ⟨?_, ?_, ?_⟩ <;> simp [World.cell?, h]
theorem BoxT.new (W : World) (e : Nat) (x : Tok) : BoxT (W.alloc (.cells #[.int .i64 x.kind, .string (bs x.text), .int .i64 (x.pos : Int)] e)) W.heap.size e x := World.alloc_heap_new W _
theorem cell_three_new (w : World) (e : Nat) (a b c : Value) : ∀ j u, [a, b, c][j]? = some u → (w.alloc (.cells #[a, b, c] e)).cell? ((⟨w.heap.size, 0, none⟩ : Addr).add j) = some u := by
  intro j u h
  rw [Addr.add_lit]
  rw [World.cell?_alloc_at _ _ _ _ rfl]
  match j with
  | 0 => simpa using h
  | 1 => simpa using h
  | 2 => simpa using h
  | j + 3 => simp at h
def ScI (N : Nat) (pre : List TB) (W : World) : Prop := (∃ v, Boxed W (N + 1 + 1 + 1) 22 v ∧ W.ownsRow N 32 3 v pre.length (rowC (pre.map (fun y : TB => y.1))) ∧ ∀ x ∈ pre, x.2 = true)
def ScB (N : Nat) (q r : Int) (W : World) : Prop := Boxed W N 22 (.slice none 0 0) ∧ Boxed W (N + 1) 25 (.int .i64 q) ∧ Boxed W (N + 1 + 1) 3 (.int .i64 r)
theorem box_app {W w1 : World} {N n₀ B t e : Nat} {size k : Nat} {u v v' : Value} {xs : List Value} {tmp : Obj} (hb : Boxed W B t u) (hte : t ≠ e) (hrow : W.ownsRow n₀ e size v k xs) (hgrow : (W.alloc tmp).grownBy w1 v.ownBlock) (hne : B ≠ N) :
    Boxed (w1.setCell ⟨N, 0, none⟩ v') B t u := ((hb.alloc tmp).kept hgrow (hb.not_row hte hrow)).other hne v'
theorem scB_app {W w1 : World} {N n₀ k : Nat} {q r : Int} {v v' : Value} {xs : List Value} {tmp : Obj} (hb : ScB N q r W) (hrow : W.ownsRow n₀ 32 3 v k xs) (hgrow : (W.alloc tmp).grownBy w1 v.ownBlock) :
    ScB N q r (w1.setCell ⟨N + 1 + 1 + 1, 0, none⟩ v') :=
  ⟨box_app hb.1 (by decide) hrow hgrow (by omega), box_app hb.2.1 (by decide) hrow hgrow (by omega), box_app hb.2.2 (by decide) hrow hgrow (by omega)⟩
theorem scB_set {W : World} {N : Nat} {q r q' r' : Int} (h : ScB N q r W) : ScB N q' r' ((((W.setCell ⟨N, 0, none⟩ (.slice none 0 0)).setCell ⟨N + 1, 0, none⟩ (.int .i64 q')).setCell ⟨N + 1 + 1, 0, none⟩ (.int .i64 r')).drew) :=
  ⟨((h.1.set _).other (by omega) _).other (by omega) _, ((h.2.1.other (by omega) _).set _).other (by omega) _, ((h.2.2.other (by omega) _).other (by omega) _).set _⟩
theorem keeps_set (B : Nat) (W : World) (a b c : Addr) (x y z : Value) : KeepsFrom B W ((((W.setCell a x).setCell b y).setCell c z).drew) :=
  ((((KeepsOthers.setCell W a x).trans (KeepsOthers.setCell _ b y)).trans (KeepsOthers.setCell _ c z)).trans (KeepsOthers.drew _)).from B
theorem below_set {B : Nat} {w W : World} (h : Below B w W) {a b c : Addr} (ha : B ≤ a.block) (hb : B ≤ b.block) (hc : B ≤ c.block) (x y z : Value) : Below B w ((((W.setCell a x).setCell b y).setCell c z).drew) :=
  (((h.setCell ha x).setCell hb y).setCell hc z).drew
theorem sc_len {l : List UInt8} {pos : Nat} {ts : List Tok} {err : Option Nat} (h : Sc l pos ts err) : ts.length ≤ l.length + 1 ∧ (err ≠ none → ts.length ≤ l.length) := by
  induction h with
  | fin l pos h0 => exact ⟨by simp, fun h => absurd rfl h⟩
  | bad l pos h0 h1 => exact ⟨by simp, fun _ => by simp⟩
  | tok l pos r ts e h0 h1 h2 h3 ih =>
    subst h1
    have hn := tok_pos h2
    have hle := tok_le h2
    simp only [List.length_drop] at ih hle
    simp only [List.length_cons]
    exact ⟨by omega, fun q => by have := ih.2 q; omega⟩
theorem seq_len {l : List UInt8} {ts : List Tok} {err : Option Nat} (h : Sc l 0 ts err) : (seqT l ts err).length ≤ l.length + 1 := by
  have h1 := sc_len h
  cases err with
  | none => simp [seqT]; exact h1.1
  | some p => simp [seqT]; exact h1.2 (by simp)
theorem seq_true {l : List UInt8} {ts : List Tok} {err : Option Nat} (h : ∀ x ∈ seqT l ts err, x.2 = true) : err = none ∧ (seqT l ts err).map (fun y : TB => y.1) = ts := by
  cases err with
  | none => exact ⟨rfl, by simp [seqT, Function.comp_def]⟩
  | some p => have := h (⟨(tokL (l.drop p)).kind, (tokL (l.drop p)).text, p⟩, false) (by simp [seqT]); cases this
theorem seq_false {l : List UInt8} {ts : List Tok} {err : Option Nat} {t : Tok} (h : (t, false) ∈ seqT l ts err) : err = some t.pos := by
  cases err with
  | none => simp [seqT] at h
  | some p => simp [seqT] at h; rw [h]
theorem toks_slice {w : World} {base e n cc : Nat} {C : Option Addr} {ts : List Tok} (h : w.ownsRow base e 3 (.slice C n cc) ts.length (rowC ts)) : ToksAt w w.heap.size C (ts.map mt) := by
  obtain ⟨C', cc', he, hT⟩ := toks_of_owns h
  cases he
  exact hT
theorem row_set {w : World} {n₀ e size k B t : Nat} {v u : Value} {xs : List Value} (h : w.ownsRow n₀ e size v k xs) (hb : Boxed w B t u) (hte : t ≠ e) (u' : Value) : (w.setCell ⟨B, 0, none⟩ u').ownsRow n₀ e size v k xs :=
  h.kept (grownBy_setCell' w B u') (.inr (hb.not_row hte h).symm)
def ScX (N : Nat) (c : Code) (pre : List TB) (W : World) : Prop := c = .ret ∧ ∃ ini last, pre = ini ++ [(last, false)] ∧ ScB N 2 last.pos W
theorem scB_kept {X Y : World} {row : Option Nat} {N : Nat} {q r : Int} (h : ScB N q r X) (hg : X.grownBy Y row) (hrow : ∀ r, row = some r → ∃ o : Obj, X.heap[r]? = some o ∧ o.isCells = false) : ScB N q r Y :=
  ⟨boxed_kept h.1 hg hrow, boxed_kept h.2.1 hg hrow, boxed_kept h.2.2 hg hrow⟩
theorem scI_own (N : Nat) : Own (ScI N) := holdsRow_own N (N + 1 + 1 + 1) 22 32 3 (fun pre : List TB => pre.length) (fun pre : List TB => rowC (pre.map (fun y : TB => y.1))) (fun pre _ => ∀ x ∈ pre, x.2 = true)
theorem scX_own (N : Nat) (c : Code) : Own (ScX N c) := by
  rintro s X Y row ⟨hc, ini, last, e, hb⟩ hg hrow
  exact ⟨hc, ini, last, e, scB_kept hb hg hrow⟩
theorem scB_own (N : Nat) (q r : Int) : Own (fun (_ : List TB) W => ScB N q r W) := fun _ _ _ _ hs hg hrow => scB_kept hs hg hrow
set_option maxRecDepth 100000 in
set_option maxHeartbeats 4000000 in
theorem scan_any (s : ByteArray) (w : World) (hs : s.size ≤ 65536) {ts : List Tok} {err : Option Nat} (hsc : Sc s.data.toList 0 ts err) : Calls Try.prog 10 #[.string s] w (ScanIs s ts err w) := by
  have hfull := rest_start s hsc
  obtain ⟨i0, hi, hz0, hz1, hz2⟩ := info_parts Try.infoTok
  have h' : ¬ (65536 : Int) < (s.size : Int) := by omega
  refine (callsIn_wide (n := 4)).1 ?_
  refine callsIn_of_wp_marks Try.func10 rfl trivial ?_ rfl
  simp only [Try.ntmps10, List.size_toArray, List.length_cons, List.length_nil, Nat.reduceAdd, Nat.reduceSub, Array.replicate_succ, Array.replicate_zero, List.push_toArray, List.append_toArray, List.nil_append, List.cons_append]
  gi_wp2_with (first | (refine ⟨trivial, ?_⟩; gi_at_call 16; refine (tokens_in _ s _).mono ?_; rintro e w' ⟨rfl, rfl⟩) | fail)
  have bs0 := Boxed.new w 22 (.slice none 0 0)
  obtain ⟨N, hN⟩ : ∃ N, w.heap.size = N := ⟨_, rfl⟩
  obtain ⟨W0, hW0⟩ : ∃ W0, (((((w.alloc (.cells #[.slice none 0 0] 22)).alloc (.cells #[.int .i64 0] 25)).alloc (.cells #[.int .i64 0] 3)).alloc (.cells #[.slice none 0 0] 22)).alloc (.cells #[.string s] 9)) = W0 := ⟨_, rfl⟩
  have hsz : W0.heap.size = N + 1 + 1 + 1 + 1 + 1 := by rw [← hW0]; simp [hN]
  have hB0 : Below N w W0 := by
    rw [← hW0]; subst hN
    exact (((((Below.refl _ w).alloc (Nat.le_refl _) _).alloc (by simp) _).alloc (by simp; omega) _).alloc (by simp; omega) _).alloc (by simp; omega) _
  have hI0 : ScB N 0 0 W0 ∧ Boxed W0 (N + 1 + 1 + 1) 22 (.slice none 0 0) ∧ Boxed W0 (N + 1 + 1 + 1 + 1) 9 (.string s) := by
    rw [← hW0]; subst hN
    have e1 := Boxed.new (w.alloc (.cells #[.slice none 0 0] 22)) 25 (.int .i64 0)
    have e2 := Boxed.new ((w.alloc (.cells #[.slice none 0 0] 22)).alloc (.cells #[.int .i64 0] 25)) 3 (.int .i64 0)
    have e3 := Boxed.new (((w.alloc (.cells #[.slice none 0 0] 22)).alloc (.cells #[.int .i64 0] 25)).alloc (.cells #[.int .i64 0] 3)) 22 (.slice none 0 0)
    have e4 := (Boxed.new ((((w.alloc (.cells #[.slice none 0 0] 22)).alloc (.cells #[.int .i64 0] 25)).alloc (.cells #[.int .i64 0] 3)).alloc (.cells #[.slice none 0 0] 22)) 9 (.string s))
    simp only [World.size_alloc] at e1 e2 e3 e4
    exact ⟨⟨(((bs0.alloc _).alloc _).alloc _).alloc _, ((e1.alloc _).alloc _).alloc _, (e2.alloc _).alloc _⟩, e3.alloc _, e4⟩
  clear bs0
  obtain ⟨hI1, hI2, hI3⟩ := hI0
  rw [hW0]
  simp only [hN]
  clear hW0
  refine wpIn_rangeFunc_ownH rfl (by omega) (gf := 20) (lb := #[.pointer (some ⟨N + 1 + 1 + 1 + 1, 0, none⟩)]) rfl trivial (enters_of Try.func20 (by kernel_rfl) rfl)
    (tokens_stops 3 (by omega) (N + 1 + 1 + 1 + 1) s (by omega) _ hfull W0 (by omega) hI3.cell) kpB_t (kpB_b (by omega)) (Below.refl _ _) (fun _ => rfl)
    (fun pre W => ScI N pre W ∧ (ScB N 0 0 W ∧ Boxed W (N + 1 + 1 + 1 + 1) 9 (.string s)) ∧ Below N w W)
    (fun c pre W => ScX N c pre W ∧ Below N w W)
    (OwnFrom.and (Own.from (scI_own N) _) (OwnFrom.and (OwnFrom.and (Own.from (scB_own N 0 0) _) (Own.from (boxed_own (N + 1 + 1 + 1 + 1) 9 (fun _ => .string s)) _)) (ownFrom_below (by omega) (by omega))))
    (fun c => OwnFrom.and (Own.from (scX_own N c) _) (ownFrom_below (by omega) (by omega)))
    ⟨⟨_, hI2, World.ownsRow_nil _ _ _ _, by simp⟩, ⟨hI1, hI3⟩, hB0⟩
    (fun x a' W => ∃ Bx, N + 1 + 1 + 1 + 1 < Bx ∧ BoxT W Bx 32 x.1 ∧ a' = { tmps := #[.string s, undef, .pointer (some ⟨N, 0, none⟩), .pointer (some ⟨N + 1, 0, none⟩), .pointer (some ⟨N + 1 + 1, 0, none⟩), .pointer (some ⟨N + 1 + 1 + 1, 0, none⟩), .pointer (some ⟨Bx, 0, none⟩), .bool x.2, .string s, .int .i64 s.size, .bool false, .string s, .func (.func 20) #[] #[.pointer (some ⟨N + 1 + 1 + 1 + 1, 0, none⟩)], tokV x.1.kind x.1.text x.1.pos, .bool x.2, undef, undef, undef, undef, undef, undef, undef, undef, undef], defers := [] })
    (fun x a' => by rintro u X Y row ⟨Bx, h1, h2, h3⟩ hg hrow; exact ⟨Bx, h1, boxT_own Bx _ x.1 () X Y row h2 hg (fun r e => (hrow r e).2), h3⟩) ?assign ?body ?done ?stop
  case assign =>
    rintro l pre x W K ⟨hI, ⟨hX, hS⟩, hB⟩ hK
    dsimp only [encsT, tokV]
    gi_wp2
    obtain ⟨v, hv, hrow, hfl⟩ := hI
    have hlt := hS.lt
    exact hK _ _ ((KeepsOthers.alloc _ _).from _) ⟨Below.heap_alloc _ _ _ hlt, by simp⟩ ⟨⟨v, hv.alloc _, hrow.alloc _, hfl⟩, ⟨⟨hX.1.alloc _, hX.2.1.alloc _, hX.2.2.alloc _⟩, hS.alloc _⟩, hB.alloc (by omega) _⟩ ⟨W.heap.size, hlt, BoxT.new W _ x.1, rfl⟩
  case body =>
    rintro l pre ⟨x, b⟩ a' W hl ⟨r, hr⟩ ⟨hI, ⟨hX, hS⟩, hB⟩ ⟨Bx, hBx, bX, rfl⟩ hlt
    have hmx : Try.prog.follows .mixedOrders = true := by kernel_rfl
    have hd : 1 ≤ 4 - 1 - 1 := by omega
    obtain ⟨x0, x1, x2⟩ := bX.cells
    have c1 := hX.1.cell
    have c2 := hX.2.1.cell
    have c3 := hX.2.2.cell
    have f1 := hX.1.frozen
    have f2 := hX.2.1.frozen
    have f3 := hX.2.2.frozen
    have hBs : N ≤ W.heap.size := by have := hS.lt; omega
    obtain ⟨v, hv, hrow, hfl⟩ := hI
    have c4 := hv.cell
    have f4 := hv.frozen
    have hq := seq_len hsc
    simp only [Array.length_toList] at hq
    have hsz' : s.data.size = s.size := rfl
    cases b
    · gi_wp2
      gi_region_o
      all_goals gi_wp2
      all_goals (try go_bits)
      all_goals exact ⟨keeps_set _ _ _ _ _ _ _ _, ⟨rfl, pre, x, rfl, scB_set hX⟩, below_set hB (by simp) (by simp) (by simp; omega) _ _ _⟩
    · gi_wp2_with (gi_at_builtin; refine wpListIn_append_own _ rfl _ _ 22 rfl N 32 i0 (.agg #[.int .i64 0, .string ⟨#[]⟩, .int .i64 0]) 3 32 Try.underlying22 hi hz0 hz1 hz2 rfl (by decide) _ pre.length _ rfl (hrow.alloc _) ⟨W.heap.size, 0, none⟩ 1 1 [.int .i64 x.kind, .string (bs x.text), .int .i64 (x.pos : Int)] rfl rfl (cell_three_new _ _ _ _ _) (by simp [Value.oneCell']) (by unfold maxLen; omega) (by omega) (by simp; omega) ?_; intro v' w1 hown' hgrow _; obtain ⟨g', cap', rfl⟩ := ownsRow_succ hown'; obtain ⟨hv1, hv2, hr2, hk2, hb2⟩ := hv.appended (by decide) hrow hBs (by omega) hown' hgrow; have hc1 := hv1.cell; have hf1 := hv1.frozen)
      refine ⟨hk2.from _, ?_, ⟨_, hv2, ?_, ?_⟩, ⟨scB_app hX hrow hgrow, box_app hS (by decide) hrow hgrow (by omega)⟩, hB.trans hb2⟩
      · exact ⟨(show _ = _ from box_app hS (by decide) hrow hgrow (by omega)).trans (show _ = _ from hS).symm, hk2.size⟩
      · have e1 : rowC (List.map (fun y : TB => y.1) (pre ++ [(x, true)])) = rowC (List.map (fun y : TB => y.1) pre) ++ [.int .i64 x.kind, .string (bs x.text), .int .i64 (x.pos : Int)] := by
          rw [List.map_append, show List.map (fun y : TB => y.1) [(x, true)] = [x] from rfl, rowC_snoc]; rfl
        rw [e1, List.length_append]
        exact hr2
      · intro y hy
        rcases List.mem_append.1 hy with h | h
        · exact hfl y h
        · simp at h; subst h; rfl
  case done =>
    rintro D ys W hD rfl ⟨⟨v, hv, hrow, hfl⟩, ⟨hX, hS⟩, hB⟩ hK
    obtain ⟨he, hm⟩ := seq_true hfl
    have hlen : (seqT s.data.toList ts err).length = ts.length := by rw [← List.length_map (f := fun y : TB => y.1), hm]
    rw [hm, hlen] at hrow
    have c1 := hX.1.cell
    have c2 := hX.2.1.cell
    have c3 := hX.2.2.cell
    have f1 := hX.1.frozen
    have f2 := hX.2.1.frozen
    have f3 := hX.2.2.frozen
    have c4 := hv.cell
    obtain ⟨C, cc, rfl, _⟩ := toks_of_owns hrow
    clear hm hfl hlen
    gi_wp2
    have b1 : Boxed ((((W.setCell ⟨N, 0, none⟩ (.slice C ts.length cc)).setCell ⟨N + 1, 0, none⟩ (.int .i64 0)).setCell ⟨N + 1 + 1, 0, none⟩ (.int .i64 0))) N 22 (.slice C ts.length cc) := ((hX.1.set _).other (by omega) _).other (by omega) _
    have b2 : Boxed ((((W.setCell ⟨N, 0, none⟩ (.slice C ts.length cc)).setCell ⟨N + 1, 0, none⟩ (.int .i64 0)).setCell ⟨N + 1 + 1, 0, none⟩ (.int .i64 0))) (N + 1) 25 (.int .i64 0) := ((hX.2.1.other (by omega) _).set _).other (by omega) _
    have b3 : Boxed ((((W.setCell ⟨N, 0, none⟩ (.slice C ts.length cc)).setCell ⟨N + 1, 0, none⟩ (.int .i64 0)).setCell ⟨N + 1 + 1, 0, none⟩ (.int .i64 0))) (N + 1 + 1) 3 (.int .i64 0) := ((hX.2.2.other (by omega) _).other (by omega) _).set _
    have hr1 := row_set (row_set (row_set hrow hX.1 (by decide) (.slice C ts.length cc)) (hX.2.1.other (by omega) _) (by decide) (.int .i64 0)) ((hX.2.2.other (by omega) _).other (by omega) _) (by decide) (.int .i64 0)
    have hK' : ((((W.setCell ⟨N, 0, none⟩ (.slice C ts.length cc)).setCell ⟨N + 1, 0, none⟩ (.int .i64 0)).setCell ⟨N + 1 + 1, 0, none⟩ (.int .i64 0))).heap[D]? = some (.deferred (some [])) :=
      (((KeepsOthers.setCell W ⟨N, 0, none⟩ (.slice C ts.length cc)).trans (KeepsOthers.setCell _ ⟨N + 1, 0, none⟩ (.int .i64 0))).trans (KeepsOthers.setCell _ ⟨N + 1 + 1, 0, none⟩ (.int .i64 0))).same D _ hK rfl
    have hB1 : Below N w (((W.setCell ⟨N, 0, none⟩ (.slice C ts.length cc)).setCell ⟨N + 1, 0, none⟩ (.int .i64 0)).setCell ⟨N + 1 + 1, 0, none⟩ (.int .i64 0)) :=
      ((hB.setCell (p := ⟨N, 0, none⟩) (Nat.le_refl _) _).setCell (p := ⟨N + 1, 0, none⟩) (by simp) _).setCell (p := ⟨N + 1 + 1, 0, none⟩) (by simp; omega) _
    obtain ⟨W1, hW1⟩ : ∃ W1, ((((W.setCell ⟨N, 0, none⟩ (.slice C ts.length cc)).setCell ⟨N + 1, 0, none⟩ (.int .i64 0)).setCell ⟨N + 1 + 1, 0, none⟩ (.int .i64 0))) = W1 := ⟨_, rfl⟩
    rw [hW1] at b1 b2 b3 hr1 hK' hB1 ⊢
    clear hW1
    refine ⟨by simp, .inl ⟨_, _, rfl, run_takeDeferred hK', ?_⟩⟩
    have d1 := (b1.kept (grownBy_putObj' W1 D (.deferred none)) (by simp; omega)).cell
    have d2 := (b2.kept (grownBy_putObj' W1 D (.deferred none)) (by simp; omega)).cell
    have d3 := (b3.kept (grownBy_putObj' W1 D (.deferred none)) (by simp; omega)).cell
    have hr2 := ownsRow_putObj hr1 (.deferred none) hK' rfl
    refine ⟨.tuple #[.slice C ts.length cc, .int .i64 0, .int .i64 0], by simp [results, Try.f10, go_sem, d1, d2, d3], by rw [hN]; exact hB1.trans (belowK_b (w := W0) (by omega) W1 D _ _ hD hK' rfl rfl), .inl ⟨he, C, cc, rfl, toks_slice hr2⟩⟩
  case stop =>
    rintro D c pre W hD hpre ⟨⟨rfl, ini, last, rfl, hX⟩, hB⟩ hK
    have he := seq_false (hpre.subset (List.mem_append_right ini (List.mem_singleton.2 rfl)))
    gi_wp2
    refine ⟨by simp, .inl ⟨_, _, rfl, run_takeDeferred hK, ?_⟩⟩
    have d1 := (hX.1.kept (grownBy_putObj' W D (.deferred none)) (by simp; omega)).cell
    have d2 := (hX.2.1.kept (grownBy_putObj' W D (.deferred none)) (by simp; omega)).cell
    have d3 := (hX.2.2.kept (grownBy_putObj' W D (.deferred none)) (by simp; omega)).cell
    exact ⟨.tuple #[.slice none 0 0, .int .i64 2, .int .i64 last.pos], by simp [results, Try.f10, go_sem, d1, d2, d3], by rw [hN]; exact hB.trans (belowK_b (w := W0) (by omega) W D _ _ hD hK rfl rfl), .inr ⟨last.pos, he, rfl⟩⟩
end Go.Proofs.Ytaemahhcacolgaa
