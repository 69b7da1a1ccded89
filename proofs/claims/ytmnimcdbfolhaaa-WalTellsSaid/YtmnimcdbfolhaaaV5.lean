/- The walk of Open. -/
import Derived.Test.YtmnimcdbfolhaaaLG
import Derived.Maps.AppendAt
import Derived.Test.YtmnimcdbfolhaaaRoundReg
import Derived.Test.YtmnimcdbfolhaaaAppAny
set_option linter.unusedSimpArgs false
set_option linter.unusedVariables false
namespace Go.Proofs.Ytmnimcdbfolhaaa
open Go.RowKit Go.Shelf DK
attribute [local go_sem] Oper.semAt_some
theorem boxed_kept {X Y : World} {row : Option Nat} {B t : Nat} {v : Value} (h : Boxed X B t v) (hg : X.grownBy Y row) (hrow : ∀ r, row = some r → ∃ o : Obj, X.heap[r]? = some o ∧ o.isCells = false) : Boxed Y B t v :=
  boxed_own B t (fun _ : Unit => v) () X Y row h hg hrow
def lastE (pre : List TE) : Nat := (pre.map (fun y : TE => y.1)).getLastD 0
/-- What holds from round to round: the log's block and its rows; the boxes of the log's pointer, of the valid length, of the text. -/
structure OpI (b N : Nat) (f : Int) (x : Bts) (pre : List TE) (W : World) : Prop where
  row : ∃ v, W.heap[N]? = some (logO b f v) ∧ W.ownsRow (N + 1 + 1 + 1 + 1) 9 1 v pre.length (strV (pre.map (fun y : TE => y.2)))
  bl : Boxed W (N + 1) 35 (lp N)
  bv : Boxed W (N + 1 + 1) 3 (.int .i64 (lastE pre : Nat))
  bx : Boxed W (N + 1 + 1 + 1) 9 (.string (bs x))
theorem opI_own (b N : Nat) (f : Int) (x : Bts) : Own (OpI b N f x) := by
  rintro s X Y row ⟨⟨v, h1, h2⟩, hl, hv, hx⟩ hg hrow
  refine ⟨⟨v, (grownBy_keeps_cells hg hrow h1 rfl).trans h1, ?_⟩, boxed_kept hl hg hrow, boxed_kept hv hg hrow, boxed_kept hx hg hrow⟩
  refine row_heap h2 fun k hk => ?_
  rcases h2.2 with ⟨rfl, _⟩ | ⟨g, cap, cur, rfl, _, hgb, _⟩
  · cases hk
  · obtain rfl : g = k := Option.some.inj hk
    exact grownBy_keeps_cells hg hrow hgb rfl
theorem recs_many : ∀ (l : List Bts), l.length ≤ (recs l).length
  | [] => Nat.le_refl _
  | x :: l => by rw [recs_cons, List.length_append, recd_len]; have := recs_many l; simp; omega
theorem lastE_snoc (pre : List TE) (y : TE) : lastE (pre ++ [y]) = y.1 := by simp [lastE]
/-- What stands where Open's loop has ended. -/
structure OpX (w0 w W : World) (b N D : Nat) (f : Int) (P : Nat → Prop) (o : Option Nat) (c n : Nat) (s : St) (R : List Bts) : Prop where
  h : HasP w0 b P n w s
  hN : w.heap.size = N
  hB : Below N w W
  obj : W.heap[N]? = some (logO b f (.slice (ad o) R.length c))
  row : W.ownsRow (N + 1 + 1 + 1 + 1) 9 1 (.slice (ad o) R.length c) R.length (strV R)
  bl : Boxed W (N + 1) 35 (lp N)
  dB : N + 1 + 1 + 1 + 1 ≤ D
  dD : W.heap[D]? = some (.deferred (some []))
def opP (P : Nat → Prop) (N D : Nat) (o : Option Nat) (k : Nat) : Prop := P k ∨ (k = N ∨ o = some k ∨ k = N + 1 ∨ k = D)
section
variable {w0 w W W2 : World} {b N D : Nat} {f : Int} {P : Nat → Prop} {o : Option Nat} {c n n2 : Nat} {s s2 : St} {R : List Bts}
theorem owns_low {base base2 e size n : Nat} {v : Value} {xs : List Value} (h : W.ownsRow base e size v n xs) (hb : base2 ≤ base) : W.ownsRow base2 e size v n xs := by
  refine ⟨h.1, ?_⟩
  rcases h.2 with q | ⟨g, cap, cur, h1, h2, h3⟩
  · exact .inl q
  · exact .inr ⟨g, cap, cur, h1, by omega, h3⟩
theorem OpX.olt (X : OpX w0 w W b N D f P o c n s R) {g : Nat} (e : o = some g) : N + 1 + 1 + 1 + 1 ≤ g ∧ g < W.heap.size := X.row.lt g (by rw [ad_block]; exact e)
theorem OpX.nlt (X : OpX w0 w W b N D f P o c n s R) : N + 1 < W.heap.size := X.bl.lt
theorem OpX.dlt (X : OpX w0 w W b N D f P o c n s R) : D < W.heap.size := (Array.getElem?_eq_some_iff.1 X.dD).1
theorem OpX.has (X : OpX w0 w W b N D f P o c n s R) : HasP w0 b (opP P N D o) n W s :=
  X.h.with_ (by rw [X.hN]; exact X.hB) fun k q => by
    have h1 := X.nlt
    have h2 := X.dlt
    have h3 := X.dB
    rw [X.hN]
    rcases q with rfl | q | rfl | rfl
    · omega
    · have := X.olt q; omega
    · omega
    · omega
theorem OpX.cell (X : OpX w0 w W b N D f P o c n s R) (k : Keep (opP P N D o) W W2) : W2.cell? ⟨N + 1, 0, none⟩ = some (.pointer (some ⟨N, 0, none⟩)) :=
  (World.cell?_of_block (a := ⟨N + 1, 0, none⟩) (k.block _ X.nlt (.inr (.inr (.inr (.inl rfl)))))).trans X.bl.cell
theorem OpX.dd (X : OpX w0 w W b N D f P o c n s R) (k : Keep (opP P N D o) W W2) : W2.heap[D]? = some (.deferred (some [])) := (k.block _ X.dlt (.inr (.inr (.inr (.inr rfl))))).trans X.dD
theorem OpX.err (X : OpX w0 w W b N D f P o c n s R) (H : HasP w0 b (opP P N D o) n2 W2 s2) (k : Keep (opP P N D o) W W2) (ob : Obj) : Keep P w (W2.putObj D ob) ∧ HasP w0 b P n2 (W2.putObj D ob) s2 := by
  have hg := grownBy_putObj' W2 D ob
  have hw0 := X.h.below.size
  have hN := X.hN
  have hdB := X.dB
  refine ⟨⟨Nat.le_trans X.hB.size (Nat.le_trans k.size hg.size), fun i hi hp => ?_⟩, H.turn_ hg.os hg.tape hg.output hg.size (fun i hi hp => ?_) fun i q => ⟨.inl (.inl q), Nat.lt_of_lt_of_le (H.lt i (.inl q)) hg.size⟩⟩
  · rw [World.putObj_heap_other (by omega), k.block i (Nat.lt_of_lt_of_le hi X.hB.size) (.inl hp)]
    exact X.hB.block i (by omega)
  · refine World.putObj_heap_other fun e => ?_
    subst e
    rcases hp with hp | hp
    · exact hp (.inr (.inr (.inr (.inr rfl))))
    · omega
theorem OpX.ok (X : OpX w0 w W b N D f P o c n s R) (H : HasP w0 b (opP P N D o) n2 W2 s2) (k : Keep (opP P N D o) W W2) (ob : Obj) : Wal w0 b N f P n2 (W2.putObj D ob) s2 R := by
  have hg := grownBy_putObj' W2 D ob
  have hw0 := X.h.below.size
  have hN := X.hN
  have hdB := X.dB
  have hnD : ∀ g, o = some g → g ≠ D := fun g e q => by
    subst q
    rcases X.row.2 with ⟨q, _⟩ | ⟨g2, cap, cur, q, _, hgb, _⟩
    · injection q with q; rw [e] at q; cases q
    · injection q with q; rw [e] at q; injection q with q; injection q with q; subst q
      rw [X.dD] at hgb; cases hgb
  have hb : ∀ i, i < W.heap.size → opP P N D o i → i ≠ D → (W2.putObj D ob).heap[i]? = W.heap[i]? := fun i hi hp hn => (World.putObj_heap_other (by omega)).trans (k.block i hi hp)
  refine ⟨⟨o, c, ⟨(hb N (by have := X.nlt; omega) (.inr (.inl rfl)) (by omega)).trans X.obj, ?_⟩, fun i hp => ?_, H.turn_ hg.os hg.tape hg.output hg.size (fun i hi hp => ?_) fun i q => ⟨.inl ?_, Nat.lt_of_lt_of_le (H.lt i ?_) hg.size⟩⟩, by omega⟩
  · refine owns_low (base := N + 1 + 1 + 1 + 1) (row_heap X.row fun g e => ?_) (by omega)
    rw [ad_block] at e
    exact hb g (X.olt e).2 (.inr (.inr (.inl e))) (hnD g e)
  · have := X.h.lt i hp
    exact ⟨by omega, fun e => by have := X.olt e; omega⟩
  · refine World.putObj_heap_other fun e => ?_
    subst e
    rcases hp with hp | hp
    · exact hp (.inr (.inr (.inr (.inr rfl))))
    · omega
  · rcases q with q | q | q
    · exact .inl q
    · exact .inr (.inl q)
    · exact .inr (.inr (.inl q))
  · rcases q with q | q | q
    · exact .inl q
    · exact .inr (.inl q)
    · exact .inr (.inr (.inl q))
end
theorem open_1 (s : St) (f : Int) : open1 s f = if (recs (rowsOf (s.data f.toNat))).length < (s.data f.toNat).length then cut s f ((recs (rowsOf (s.data f.toNat))).length : Int) else (0, s) := rfl
theorem open_1e {s s1 : St} {f v1 : Int} (hf : ¬ (f < 0 ∨ 6 < f)) (hd : s.down = false) (h : open1 s f = (v1, s1)) (g : ¬ v1 = 0) : openS s f = (v1, s1) := by
  unfold openS; rw [if_neg hf, hd, h]; simp only [Bool.false_eq_true, if_false]; rw [if_pos g]
theorem open_2 {s s1 s2 : St} {f v2 : Int} (hf : ¬ (f < 0 ∨ 6 < f)) (hd : s.down = false) (h : open1 s f = (0, s1)) (h2 : open2 s1 f = (v2, s2)) (g : ¬ v2 = 0) : openS s f = (v2, s2) := by
  unfold openS; rw [if_neg hf, hd, h]; simp only [Bool.false_eq_true, if_false]; rw [if_neg (by simp), h2, if_pos g]
theorem open_3 {s s1 s2 s3 : St} {f v3 : Int} (hf : ¬ (f < 0 ∨ 6 < f)) (hd : s.down = false) (h : open1 s f = (0, s1)) (h2 : open2 s1 f = (0, s2)) (h3 : DK.flush s2 f = (v3, s3)) : openS s f = (v3, s3) := by
  unfold openS; rw [if_neg hf, hd, h]; simp only [Bool.false_eq_true, if_false]; rw [if_neg (by simp), h2, if_neg (by simp)]; exact h3
set_option maxRecDepth 100000 in
set_option maxHeartbeats 16000000 in
theorem open_ok {w0 w : World} {b : Nat} {P : Nat → Prop} {n : Nat} {s : St} (h : HasP w0 b P n w s) (f : Int) (hf : ¬ (f < 0 ∨ 6 < f)) (hd : s.down = false) (hn : n ≤ 999999) :
    Calls Try.prog 17 #[dp b, .int .i64 f] w (OpenIs w0 b f P n s w) := by
  have hnum : num f = true := num_iff.2 (by omega)
  obtain ⟨x, hx⟩ : ∃ x, s.data f.toNat = x := ⟨_, rfl⟩
  have hR : DK.read s f = (x, 0) := by unfold DK.read; rw [hd, hnum, ← hx]; rfl
  have hxl : x.length ≤ 16777216 := by rw [← hx]; exact h.ok.len _ (num_lt hnum)
  have hfull := rest_begin (rowsOf_is x)
  have KR := Lib.hid (h.read f hR)
  have f1 : decide (f < 0) = false := decide_eq_false (by omega)
  have f2 : decide (6 < f) = false := decide_eq_false (by omega)
  obtain ⟨i0, hi, hz0, hz1, hz2⟩ := info_parts (show (Try.prog.info? 9).map (fun i => (i.zero, i.size, i.bytes)) = some (some (.string ⟨#[]⟩), 1, 16) by kernel_rfl)
  unfold dp at *
  refine (callsIn_wide (n := 4)).1 ?_
  refine callsIn_of_wp_marks Try.func17 rfl trivial ?_ rfl
  simp only [Try.ntmps17, List.size_toArray, List.length_cons, List.length_nil, Nat.reduceAdd, Nat.reduceSub, Array.replicate_succ, Array.replicate_zero, List.push_toArray, List.append_toArray, List.nil_append, List.cons_append]
  gi_wp2_with (first | (refine ⟨trivial, ?_⟩; gi_at_call 20; refine (callsIn_wide.2 KR.out).mono ?_; rintro e w1 ⟨rfl, rfl⟩) | (refine ⟨trivial, ?_⟩; gi_at_call 41; refine (records_in _ (bs x) _).mono ?_; rintro e w' ⟨rfl, rfl⟩) | fail)
  obtain ⟨N, hN⟩ : ∃ N, w.heap.size = N := ⟨_, rfl⟩
  obtain ⟨W0, hW0⟩ : ∃ W0, ((((w.alloc (.cells #[.pointer (some ⟨b, 0, none⟩), .int .i64 f, .slice none 0 0] 77)).alloc (.cells #[.pointer (some ⟨w.heap.size, 0, none⟩)] 35)).alloc (.cells #[.int .i64 0] 3)).alloc (.cells #[.string (bs x)] 9)) = W0 := ⟨_, rfl⟩
  have hsz : W0.heap.size = N + 1 + 1 + 1 + 1 := by rw [← hW0]; simp [hN]
  have hB0 : Below N w W0 := by
    rw [← hW0]; subst hN
    exact ((((Below.refl _ w).alloc (Nat.le_refl _) _).alloc (by simp) _).alloc (by simp; omega) _).alloc (by simp; omega) _
  have hI0 : OpI b N f x [] W0 := by
    have e1 := Boxed.new (w.alloc (.cells #[.pointer (some ⟨b, 0, none⟩), .int .i64 f, .slice none 0 0] 77)) 35 (lp w.heap.size)
    have e2 := Boxed.new ((w.alloc (.cells #[.pointer (some ⟨b, 0, none⟩), .int .i64 f, .slice none 0 0] 77)).alloc (.cells #[.pointer (some ⟨w.heap.size, 0, none⟩)] 35)) 3 (.int .i64 0)
    have e3 := Boxed.new (((w.alloc (.cells #[.pointer (some ⟨b, 0, none⟩), .int .i64 f, .slice none 0 0] 77)).alloc (.cells #[.pointer (some ⟨w.heap.size, 0, none⟩)] 35)).alloc (.cells #[.int .i64 0] 3)) 9 (.string (bs x))
    simp only [World.size_alloc] at e1 e2 e3
    rw [← hW0]; subst hN
    refine ⟨⟨.slice none 0 0, ?_, World.ownsRow_nil _ _ _ _⟩, (e1.alloc _).alloc _, e2.alloc _, e3⟩
    rw [Below.heap_alloc _ _ _ (by simp; omega), Below.heap_alloc _ _ _ (by simp; omega), Below.heap_alloc _ _ _ (by simp), World.alloc_heap_new]
    rfl
  rw [hW0]
  simp only [hN]
  clear hW0
  refine wpIn_rangeFunc_ownH rfl (by omega) (gf := 63) (lb := #[.pointer (some ⟨N + 1 + 1 + 1, 0, none⟩)]) rfl trivial (enters_of Try.func63 (by kernel_rfl) rfl)
    (records_stops 3 (by omega) (N + 1 + 1 + 1) x (by omega) _ hfull W0 (by omega) hI0.bx.cell) kpB_t (kpB_b (by omega)) (Below.refl _ _) (fun _ => rfl)
    (fun pre W => OpI b N f x pre W ∧ Below N w W)
    (fun _ _ _ => False)
    (OwnFrom.and (Own.from (opI_own b N f x) _) (ownFrom_below (by omega) (by omega)))
    (fun c => fun _ _ _ _ q => q.elim)
    ⟨hI0, hB0⟩
    (fun y a' W => a' = { tmps := #[.pointer (some ⟨b, 0, none⟩), .int .i64 f, undef, undef, .pointer none, .int .i64 0, .string (bs x), .int .i64 0, .pointer (some ⟨N + 1, 0, none⟩), .pointer (some ⟨N + 1 + 1, 0, none⟩), .int .i64 (y.1 : Int), .string (bs y.2), undef, undef, undef, .pointer (some ⟨b, 0, none⟩), .bool false, .bool false, .int .i64 f, .bool false, .bool false, .bool false, .int .i64 f, .bool false, .bool false, .tuple #[.string (bs x), .int .i64 0], .pointer (some ⟨b, 0, none⟩), .int .i64 f, .tuple #[.string (bs x), .int .i64 0], .string (bs x), .int .i64 0, .int .i64 0, .bool false, undef, .pointer (some ⟨b, 0, none⟩), .int .i64 f, .agg #[.pointer (some ⟨b, 0, none⟩), .int .i64 f, .slice none 0 0], .pointer (some ⟨N, 0, none⟩), .string (bs x), .func (.func 63) #[] #[.pointer (some ⟨N + 1 + 1 + 1, 0, none⟩)], .int .i64 (y.1 : Int), .string (bs y.2), undef, undef, undef, undef, undef, undef, undef, undef, undef, undef, undef, undef, undef, undef, undef, undef, undef, undef, undef, undef, undef, undef, undef, undef, undef, undef, undef, undef, undef, undef, undef, undef, undef, undef, undef, undef, undef, undef, undef, undef, undef], defers := [] })
    (fun y a' => by rintro u X Y row h3 hg hrow; exact h3) ?assign ?body ?done ?stop
  case assign =>
    rintro l pre y W K ⟨hI, hB⟩ hK
    dsimp only [encsE]
    gi_wp2
    exact hK _ _ ((KeepsOthers.refl _).from _) ⟨rfl, Nat.le_refl _⟩ ⟨hI, hB⟩ rfl
  case body =>
    rintro l pre y a' W hl ⟨r, hr⟩ ⟨hI, hB⟩ rfl hlt
    have hmx : Try.prog.follows .mixedOrders = true := by kernel_rfl
    have hd : 1 ≤ 4 - 1 - 1 := by omega
    obtain ⟨⟨v, hv, hrow⟩, hbl, hbv, hbx⟩ := hI
    have c1 := hbl.cell
    have c2 := hbv.cell
    have f2 := hbv.frozen
    obtain ⟨c3, c4, c5, f5⟩ := logO_cells hv
    have hBs : N + 1 + 1 + 1 + 1 ≤ W.heap.size := by have := hbx.lt; omega
    unfold lp at c1
    gi_wp2
    have hb2 : Boxed (W.setCell ⟨N + 1 + 1, 0, none⟩ (.int .i64 (y.1 : Int))) (N + 1 + 1) 3 (.int .i64 (y.1 : Int)) := hbv.set _
    have hb1 : Boxed (W.setCell ⟨N + 1 + 1, 0, none⟩ (.int .i64 (y.1 : Int))) (N + 1) 35 (lp N) := hbl.other (by omega) _
    have hb3 : Boxed (W.setCell ⟨N + 1 + 1, 0, none⟩ (.int .i64 (y.1 : Int))) (N + 1 + 1 + 1) 9 (.string (bs x)) := hbx.other (by omega) _
    have hv1 : (W.setCell ⟨N + 1 + 1, 0, none⟩ (.int .i64 (y.1 : Int))).heap[N]? = some (logO b f v) := by rw [Below.heap_setCell _ _ _ _ (show N ≠ N + 1 + 1 by omega)]; exact hv
    have hrow1 := hrow.kept (grownBy_setCell' W (N + 1 + 1) (.int .i64 (y.1 : Int))) (.inr (hbv.not_row (by decide) hrow).symm)
    have hB1 := hB.setCell (p := ⟨N + 1 + 1, 0, none⟩) (show N ≤ N + 1 + 1 by omega) (.int .i64 (y.1 : Int))
    have hK1 := (KeepsOthers.setCell W ⟨N + 1 + 1, 0, none⟩ (.int .i64 (y.1 : Int)))
    have hzW : (W.setCell ⟨N + 1 + 1, 0, none⟩ (.int .i64 (y.1 : Int))).heap.size = W.heap.size := by simp
    have hx1 : (W.setCell ⟨N + 1 + 1, 0, none⟩ (.int .i64 (y.1 : Int))).heap[N + 1 + 1 + 1]? = W.heap[N + 1 + 1 + 1]? := Below.heap_setCell _ _ _ _ (show N + 1 + 1 + 1 ≠ N + 1 + 1 by omega)
    obtain ⟨W1, hW1⟩ : ∃ W1, W.setCell ⟨N + 1 + 1, 0, none⟩ (.int .i64 (y.1 : Int)) = W1 := ⟨_, rfl⟩
    rw [hW1] at hb1 hb2 hb3 hv1 hrow1 hB1 hK1 hzW hx1 ⊢
    clear hW1 c1 c2 f2 c3 c4 c5 f5 hv hrow hbl hbv hbx
    have c1 := hb1.cell
    obtain ⟨c3, c4, c5, f5⟩ := logO_cells hv1
    unfold lp at c1
    rw [← hzW] at hBs
    obtain ⟨o, c, rfl, ho⟩ := ad_of_owns hrow1
    rw [ad_block] at ho
    have n0 : some N ≠ o := fun e => by have := hrow1.lt N (by rw [ad_block]; exact e.symm); omega
    have n1 : some (N + 1) ≠ o := fun e => by have := hrow1.lt (N + 1) (by rw [ad_block]; exact e.symm); omega
    have n2 : some (N + 1 + 1) ≠ o := fun e => by have := hrow1.lt (N + 1 + 1) (by rw [ad_block]; exact e.symm); omega
    have n3 : some (N + 1 + 1 + 1) ≠ o := fun e => by have := hrow1.lt (N + 1 + 1 + 1) (by rw [ad_block]; exact e.symm); omega
    have hlN : N < W1.heap.size := by omega
    have hlN1 := hb1.lt
    have hpl : pre.length ≤ 1000000000 := by rw [seqE_len] at hlt; have := (rowsOf_is x).le; have := recs_many (rowsOf x); omega
    clear ho
    replace hzW := Lib.hid hzW
    replace hx1 := Lib.hid hx1
    refine Plan.wpIn_region_plan (fun w' => W1.grownBy w' o) 10 [(0, true), (1, true), (2, true), (3, true), (4, true), (5, true), (6, false), (7, false), (8, true), (9, true), (10, false)] (fun _ => trivial) (by kernel_rfl) (by kernel_rfl) (by kernel_rfl) (Plan.grown_drew _ _) ?_
    (repeat (first | (refine Plan.plan_read (v := ?_) rfl rfl ?_ ?_; rotate_left; (focus ((intro wS hSw; have hkS := Plan.grown_cells hSw; go_simp); try with_reducible rfl)); simp only [Act.put, List.setIfInBounds_toArray, List.set_cons_zero, List.set_cons_succ]) | (refine Plan.plan_skip rfl rfl ?_; simp only [Act.put, List.setIfInBounds_toArray, List.set_cons_zero, List.set_cons_succ])))
    (refine Plan.plan_write rfl (fun K hK => ?_); try go_simp)
    refine hK.out _ _ (Plan.grown_alloc (Plan.grown_drew _ _) _) ?_
    clear hK K
    try simp only [Act.put, List.setIfInBounds_toArray, List.set_cons_zero, List.set_cons_succ]
    refine Plan.plan_write rfl (fun K hK => ?_)
    refine step_append_any _ (by rfl) _ _ 22 (by rfl) (N + 1 + 1 + 1 + 1) 9 i0 _ 1 16 Try.underlying22 hi hz0 hz1 hz2 rfl (by omega) _ pre.length _ (by rfl) (hrow1.alloc _) (_ + 1) (some ⟨W1.heap.size, 0, none⟩) 1 1 [.string (bs y.2)] (by rfl) ⟨rfl, fun _ => ⟨_, rfl, Nat.lt_succ_self _, cells_at (by rfl) _ _⟩⟩ (fun u hu => by obtain rfl := List.mem_singleton.1 hu; rfl) (by unfold maxLen; omega) (by omega) (by simp; omega) ?_
    intro v' w3 hO3 hG3 hob3
    obtain ⟨o3, cc3, hv3, _⟩ := ad_of_owns hO3
    subst hv3
    rw [ad_block, ad_block] at hob3
    rw [ad_block] at hG3
    have hG := Plan.grown_go (Plan.grown_alloc (Plan.grown_drew _ _) _) hG3
    refine hK.out _ _ hG ?_
    clear hK K
    try simp only [Act.put, List.setIfInBounds_toArray, List.set_cons_zero, List.set_cons_succ]
    have y0 := (Plan.grown_cells hG N 2 hlN n0).trans c5
    have y1 := (World.frozen?_of_block (a := ⟨N, 2, none⟩) (hG.block N hlN n0)).trans f5
    replace hO3 := Lib.hid hO3
    (repeat (first | (refine Plan.plan_read (v := ?_) rfl rfl ?_ ?_; rotate_left; (focus ((intro wS hSw; have hkS := Plan.grown_cells hSw; go_simp); try with_reducible rfl)); simp only [Act.put, List.setIfInBounds_toArray, List.set_cons_zero, List.set_cons_succ]) | (refine Plan.plan_skip rfl rfl ?_; simp only [Act.put, List.setIfInBounds_toArray, List.set_cons_zero, List.set_cons_succ])))
    (refine Plan.plan_last rfl (fun K hK => ?_); go_simp; refine hK.out _ _ ?_; clear hK K; try simp only [Act.put, List.setIfInBounds_toArray, List.set_cons_zero, List.set_cons_succ])
    refine ⟨rfl, ?_⟩
    gi_wp2
    have hlN3 : N + 1 + 1 + 1 < W1.heap.size := by omega
    have hN3 : w3.heap[N]? = some (logO b f (.slice (ad o) pre.length c)) := (hG.block N hlN n0).trans hv1
    have hKO : KeepsOthers W (w3.setCell ⟨N, 2, none⟩ (.slice (ad o3) (pre.length + 1) cc3)) :=
      (hK1.trans (KeepsOthers.of_grownBy hG fun j ob ej hj => by
        rcases hrow1.2 with ⟨q, _⟩ | ⟨g, cap, cur, q, _, hgb, _⟩
        · injection q with q; rw [ej] at q; cases q
        · injection q with q; rw [ej] at q; injection q with q; injection q with q; subst q
          rw [hj] at hgb; injection hgb with hgb; rw [hgb]; rfl)).trans (KeepsOthers.setCell _ _ _)
    have e1 : strV (List.map (fun y : TE => y.2) (pre ++ [y])) = strV (List.map (fun y : TE => y.2) pre) ++ [.string (bs y.2)] := by
      rw [List.map_append, show List.map (fun y : TE => y.2) [y] = [y.2] from rfl, strV_snoc]
    refine ⟨hKO.from _, ⟨?_, hKO.size⟩, ⟨⟨_, logO_set hN3 _, ?_⟩, ?_, ?_, ?_⟩, ?_⟩
    · rw [Below.heap_setCell _ _ _ _ (show N + 1 + 1 + 1 ≠ N by omega), hG.block _ hlN3 n3]; exact hx1.out
    · rw [e1, List.length_append]
      exact row_heap hO3.out fun k hk => Below.heap_setCell _ _ _ _ (show k ≠ N by have := hO3.out.lt k hk; omega)
    · exact (Below.heap_setCell _ _ _ _ (show N + 1 ≠ N by omega)).trans (hb1.kept hG n1)
    · rw [lastE_snoc]; exact (Below.heap_setCell _ _ _ _ (show N + 1 + 1 ≠ N by omega)).trans (hb2.kept hG n2)
    · exact (Below.heap_setCell _ _ _ _ (show N + 1 + 1 + 1 ≠ N by omega)).trans (hb3.kept hG n3)
    · exact (hB1.grown hG (by omega) (fun k e => by have := hrow1.lt k (by rw [ad_block]; exact e); omega)).setCell (p := ⟨N, 2, none⟩) (Nat.le_refl _) _
  case done =>
    rintro D ys W hD rfl ⟨hI, hB⟩ hK
    obtain ⟨⟨v, hv, hrow⟩, hbl, hbv, hbx⟩ := hI
    rw [seqE_rows, seqE_len] at hrow
    have hlast : lastE (seqE 0 (rowsOf x)) = (recs (rowsOf x)).length := by unfold lastE; rw [seqE_last]; omega
    rw [hlast] at hbv
    obtain ⟨o, c, rfl, _⟩ := ad_of_owns hrow
    have X : OpX w0 w W b N D f P o c n s (rowsOf x) := ⟨h, hN, hB, hv, hrow, hbl, by omega, hK⟩
    have H0 := X.has
    have k0 := Keep.refl (opP P N D o) W
    have c2 := hbv.cell
    have zx := bs_size x
    have hO := open_1 s f
    rw [hx] at hO
    obtain ⟨v, hvl⟩ : ∃ v, (recs (rowsOf x)).length = v := ⟨_, rfl⟩
    rw [hvl] at c2 hO
    clear hv hrow hbl hbv hbx hI0 hfull hlast KR hvl hi hz0 hz1 hz2 hB0 hsz hK
    by_cases q1 : v < x.length
    · rw [if_pos q1] at hO
      have q3 : (v : Int) < (x.length : Int) := by omega
      obtain ⟨v1, s1, e1⟩ : ∃ v1 s1, DK.cut s f (v : Int) = (v1, s1) := ⟨_, _, rfl⟩
      rw [e1] at hO
      have K1 := Lib.hid (H0.cut f (v : Int) hn (v := v1) (s' := s1) (by rw [e1]) (by rw [e1]))
      unfold dp at K1
      clear e1
      gi_wp2_with fail
      refine ⟨trivial, ?_⟩
      gi_at_call 42
      refine (callsIn_wide.2 K1.out).mono ?_
      rintro e W1 ⟨rfl, H1, k1⟩
      clear K1
      by_cases g : v1 = 0
      · subst g
        obtain ⟨z, ez⟩ : ∃ z, DK.size s1 (f + 1) = z := ⟨_, rfl⟩
        have KZ := Lib.hid (H1.size (f + 1) ez)
        unfold dp at KZ
        by_cases q2 : 0 < z
        · have q3 : decide (0 < z) = true := decide_eq_true q2
          obtain ⟨v2, s2, e2⟩ : ∃ v2 s2, DK.cut s1 (f + 1) 0 = (v2, s2) := ⟨_, _, rfl⟩
          have hO2 : open2 s1 f = (v2, s2) := by unfold open2; rw [ez, if_pos q2]; exact e2
          have K2 := Lib.hid (H1.cut (f + 1) 0 hn (v := v2) (s' := s2) (by rw [e2]) (by rw [e2]))
          unfold dp at K2
          clear ez e2
          gi_wp2_with fail
          refine ⟨trivial, ?_⟩
          gi_at_call 21
          refine (callsIn_wide.2 KZ.out).mono ?_
          rintro e _ ⟨rfl, rfl⟩
          gi_wp2_with fail
          refine ⟨trivial, ?_⟩
          gi_at_call 42
          refine (callsIn_wide.2 K2.out).mono ?_
          rintro e W2 ⟨rfl, H2, k2⟩
          clear K2 KZ
          replace k2 := k1.trans k2
          by_cases g : v2 = 0
          · subst g
            obtain ⟨v3, s3, e3⟩ : ∃ v3 s3, DK.flush s2 f = (v3, s3) := ⟨_, _, rfl⟩
            have K3 := Lib.hid (H2.flush f hn (v := v3) (s' := s3) (by rw [e3]) (by rw [e3]))
            unfold dp at K3
            gi_wp2_with fail
            refine ⟨trivial, ?_⟩
            gi_at_call 43
            refine (callsIn_wide.2 K3.out).mono ?_
            rintro e W3 ⟨rfl, H3, k3⟩
            clear K3
            replace k3 := k2.trans k3
            by_cases g : v3 = 0
            · subst g
              have hOS : openS s f = (0, _) := open_3 hf hd hO hO2 e3
              have cX := X.cell k3
              gi_wp2_with fail
              refine ⟨by simp, .inl ⟨_, _, rfl, run_takeDeferred (X.dd k3), ?_⟩⟩
              obtain ⟨r1, r2⟩ := X.err H3 k3 (.deferred none)
              have r3 := X.ok H3 k3 (.deferred none)
              refine ⟨.tuple #[lp N, .int .i64 0], by simp [results, Try.f17, go_sem, lp], r1, .inl ?_⟩
              rw [hOS]
              exact ⟨rfl, N, rfl, by rw [hx]; exact r3, by omega⟩
            · skip
              have hOS : openS s f = (v3, _) := open_3 hf hd hO hO2 e3
              have gx : (v3 != 0) = true := by rw [bne_iff_ne]; exact g
              gi_wp2_with fail
              refine ⟨by simp, .inl ⟨_, _, rfl, run_takeDeferred (X.dd k3), ?_⟩⟩
              obtain ⟨r1, r2⟩ := X.err H3 k3 (.deferred none)
              refine ⟨.tuple #[.pointer none, .int .i64 v3], by simp [results, Try.f17, go_sem], r1, .inr ?_⟩
              rw [hOS]
              exact ⟨g, rfl, r2⟩
          · skip
            have hOS : openS s f = (v2, _) := open_2 hf hd hO hO2 g
            have gx : (v2 != 0) = true := by rw [bne_iff_ne]; exact g
            gi_wp2_with fail
            refine ⟨by simp, .inl ⟨_, _, rfl, run_takeDeferred (X.dd k2), ?_⟩⟩
            obtain ⟨r1, r2⟩ := X.err H2 k2 (.deferred none)
            refine ⟨.tuple #[.pointer none, .int .i64 v2], by simp [results, Try.f17, go_sem], r1, .inr ?_⟩
            rw [hOS]
            exact ⟨g, rfl, r2⟩
        · have q3 : decide (0 < z) = false := decide_eq_false q2
          have hO2 : open2 s1 f = (0, s1) := by unfold open2; rw [ez, if_neg q2]
          clear ez
          gi_wp2_with fail
          refine ⟨trivial, ?_⟩
          gi_at_call 21
          refine (callsIn_wide.2 KZ.out).mono ?_
          rintro e _ ⟨rfl, rfl⟩
          clear KZ
          obtain ⟨v3, s3, e3⟩ : ∃ v3 s3, DK.flush s1 f = (v3, s3) := ⟨_, _, rfl⟩
          have K3 := Lib.hid (H1.flush f hn (v := v3) (s' := s3) (by rw [e3]) (by rw [e3]))
          unfold dp at K3
          gi_wp2_with fail
          refine ⟨trivial, ?_⟩
          gi_at_call 43
          refine (callsIn_wide.2 K3.out).mono ?_
          rintro e W3 ⟨rfl, H3, k3⟩
          clear K3
          replace k3 := k1.trans k3
          by_cases g : v3 = 0
          · subst g
            have hOS : openS s f = (0, _) := open_3 hf hd hO hO2 e3
            have cX := X.cell k3
            gi_wp2_with fail
            refine ⟨by simp, .inl ⟨_, _, rfl, run_takeDeferred (X.dd k3), ?_⟩⟩
            obtain ⟨r1, r2⟩ := X.err H3 k3 (.deferred none)
            have r3 := X.ok H3 k3 (.deferred none)
            refine ⟨.tuple #[lp N, .int .i64 0], by simp [results, Try.f17, go_sem, lp], r1, .inl ?_⟩
            rw [hOS]
            exact ⟨rfl, N, rfl, by rw [hx]; exact r3, by omega⟩
          · skip
            have hOS : openS s f = (v3, _) := open_3 hf hd hO hO2 e3
            have gx : (v3 != 0) = true := by rw [bne_iff_ne]; exact g
            gi_wp2_with fail
            refine ⟨by simp, .inl ⟨_, _, rfl, run_takeDeferred (X.dd k3), ?_⟩⟩
            obtain ⟨r1, r2⟩ := X.err H3 k3 (.deferred none)
            refine ⟨.tuple #[.pointer none, .int .i64 v3], by simp [results, Try.f17, go_sem], r1, .inr ?_⟩
            rw [hOS]
            exact ⟨g, rfl, r2⟩
      · skip
        have hOS : openS s f = (v1, _) := open_1e hf hd hO g
        have gx : (v1 != 0) = true := by rw [bne_iff_ne]; exact g
        gi_wp2_with fail
        refine ⟨by simp, .inl ⟨_, _, rfl, run_takeDeferred (X.dd k1), ?_⟩⟩
        obtain ⟨r1, r2⟩ := X.err H1 k1 (.deferred none)
        refine ⟨.tuple #[.pointer none, .int .i64 v1], by simp [results, Try.f17, go_sem], r1, .inr ?_⟩
        rw [hOS]
        exact ⟨g, rfl, r2⟩
    · rw [if_neg q1] at hO
      have q3 : ¬ (v : Int) < (x.length : Int) := by omega
      obtain ⟨z, ez⟩ : ∃ z, DK.size s (f + 1) = z := ⟨_, rfl⟩
      have KZ := Lib.hid (H0.size (f + 1) ez)
      unfold dp at KZ
      by_cases q2 : 0 < z
      · have q3 : decide (0 < z) = true := decide_eq_true q2
        obtain ⟨v2, s2, e2⟩ : ∃ v2 s2, DK.cut s (f + 1) 0 = (v2, s2) := ⟨_, _, rfl⟩
        have hO2 : open2 s f = (v2, s2) := by unfold open2; rw [ez, if_pos q2]; exact e2
        have K2 := Lib.hid (H0.cut (f + 1) 0 hn (v := v2) (s' := s2) (by rw [e2]) (by rw [e2]))
        unfold dp at K2
        clear ez e2
        gi_wp2_with fail
        refine ⟨trivial, ?_⟩
        gi_at_call 21
        refine (callsIn_wide.2 KZ.out).mono ?_
        rintro e _ ⟨rfl, rfl⟩
        gi_wp2_with fail
        refine ⟨trivial, ?_⟩
        gi_at_call 42
        refine (callsIn_wide.2 K2.out).mono ?_
        rintro e W2 ⟨rfl, H2, k2⟩
        clear K2 KZ
        replace k2 := k0.trans k2
        by_cases g : v2 = 0
        · subst g
          obtain ⟨v3, s3, e3⟩ : ∃ v3 s3, DK.flush s2 f = (v3, s3) := ⟨_, _, rfl⟩
          have K3 := Lib.hid (H2.flush f hn (v := v3) (s' := s3) (by rw [e3]) (by rw [e3]))
          unfold dp at K3
          gi_wp2_with fail
          refine ⟨trivial, ?_⟩
          gi_at_call 43
          refine (callsIn_wide.2 K3.out).mono ?_
          rintro e W3 ⟨rfl, H3, k3⟩
          clear K3
          replace k3 := k2.trans k3
          by_cases g : v3 = 0
          · subst g
            have hOS : openS s f = (0, _) := open_3 hf hd hO hO2 e3
            have cX := X.cell k3
            gi_wp2_with fail
            refine ⟨by simp, .inl ⟨_, _, rfl, run_takeDeferred (X.dd k3), ?_⟩⟩
            obtain ⟨r1, r2⟩ := X.err H3 k3 (.deferred none)
            have r3 := X.ok H3 k3 (.deferred none)
            refine ⟨.tuple #[lp N, .int .i64 0], by simp [results, Try.f17, go_sem, lp], r1, .inl ?_⟩
            rw [hOS]
            exact ⟨rfl, N, rfl, by rw [hx]; exact r3, by omega⟩
          · skip
            have hOS : openS s f = (v3, _) := open_3 hf hd hO hO2 e3
            have gx : (v3 != 0) = true := by rw [bne_iff_ne]; exact g
            gi_wp2_with fail
            refine ⟨by simp, .inl ⟨_, _, rfl, run_takeDeferred (X.dd k3), ?_⟩⟩
            obtain ⟨r1, r2⟩ := X.err H3 k3 (.deferred none)
            refine ⟨.tuple #[.pointer none, .int .i64 v3], by simp [results, Try.f17, go_sem], r1, .inr ?_⟩
            rw [hOS]
            exact ⟨g, rfl, r2⟩
        · skip
          have hOS : openS s f = (v2, _) := open_2 hf hd hO hO2 g
          have gx : (v2 != 0) = true := by rw [bne_iff_ne]; exact g
          gi_wp2_with fail
          refine ⟨by simp, .inl ⟨_, _, rfl, run_takeDeferred (X.dd k2), ?_⟩⟩
          obtain ⟨r1, r2⟩ := X.err H2 k2 (.deferred none)
          refine ⟨.tuple #[.pointer none, .int .i64 v2], by simp [results, Try.f17, go_sem], r1, .inr ?_⟩
          rw [hOS]
          exact ⟨g, rfl, r2⟩
      · have q3 : decide (0 < z) = false := decide_eq_false q2
        have hO2 : open2 s f = (0, s) := by unfold open2; rw [ez, if_neg q2]
        clear ez
        gi_wp2_with fail
        refine ⟨trivial, ?_⟩
        gi_at_call 21
        refine (callsIn_wide.2 KZ.out).mono ?_
        rintro e _ ⟨rfl, rfl⟩
        clear KZ
        obtain ⟨v3, s3, e3⟩ : ∃ v3 s3, DK.flush s f = (v3, s3) := ⟨_, _, rfl⟩
        have K3 := Lib.hid (H0.flush f hn (v := v3) (s' := s3) (by rw [e3]) (by rw [e3]))
        unfold dp at K3
        gi_wp2_with fail
        refine ⟨trivial, ?_⟩
        gi_at_call 43
        refine (callsIn_wide.2 K3.out).mono ?_
        rintro e W3 ⟨rfl, H3, k3⟩
        clear K3
        replace k3 := k0.trans k3
        by_cases g : v3 = 0
        · subst g
          have hOS : openS s f = (0, _) := open_3 hf hd hO hO2 e3
          have cX := X.cell k3
          gi_wp2_with fail
          refine ⟨by simp, .inl ⟨_, _, rfl, run_takeDeferred (X.dd k3), ?_⟩⟩
          obtain ⟨r1, r2⟩ := X.err H3 k3 (.deferred none)
          have r3 := X.ok H3 k3 (.deferred none)
          refine ⟨.tuple #[lp N, .int .i64 0], by simp [results, Try.f17, go_sem, lp], r1, .inl ?_⟩
          rw [hOS]
          exact ⟨rfl, N, rfl, by rw [hx]; exact r3, by omega⟩
        · skip
          have hOS : openS s f = (v3, _) := open_3 hf hd hO hO2 e3
          have gx : (v3 != 0) = true := by rw [bne_iff_ne]; exact g
          gi_wp2_with fail
          refine ⟨by simp, .inl ⟨_, _, rfl, run_takeDeferred (X.dd k3), ?_⟩⟩
          obtain ⟨r1, r2⟩ := X.err H3 k3 (.deferred none)
          refine ⟨.tuple #[.pointer none, .int .i64 v3], by simp [results, Try.f17, go_sem], r1, .inr ?_⟩
          rw [hOS]
          exact ⟨g, rfl, r2⟩
  case stop =>
    rintro D c pre W hD hpre q hK
    exact q.elim
end Go.Proofs.Ytmnimcdbfolhaaa
