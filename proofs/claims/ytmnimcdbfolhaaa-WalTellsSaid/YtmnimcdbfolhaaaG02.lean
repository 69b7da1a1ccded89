/- Joined of: RL4 RL5 RL6 PB PO. -/
import Derived.Test.YtmnimcdbfolhaaaG01
import Derived.Test.YtmnimcdbfolhaaaDT
/- The reference's log in memory, beside its disk; its Open. -/
set_option linter.unusedSimpArgs false
set_option linter.unusedVariables false
namespace Go.Proofs.Ytmnimcdbfolhaaa
open Go.RowKit DK
attribute [local go_sem] alloc_drewN setCell_drewN shape_drewN
def rlogO (b : Nat) (f : Int) (v : Value) : Obj := .cells #[dp b, .int .i64 f, v] 105 (0, 0)
structure RLogAt (w : World) (B b lb : Nat) (f : Int) (o : Option Nat) (c : Nat) (R : List Bts) : Prop where
  obj : w.heap[lb]? = some (rlogO b f (.slice (ad o) R.length c))
  row : w.ownsRow B 9 1 (.slice (ad o) R.length c) R.length (strV R)
  ne : o ≠ some lb
section
variable {w w' : World} {B b lb : Nat} {f : Int} {o : Option Nat} {c : Nat} {R : List Bts}
theorem RLogAt.lt (h : RLogAt w B b lb f o c R) : lb < w.heap.size := (Array.getElem?_eq_some_iff.1 h.obj).1
theorem RLogAt.olt (h : RLogAt w B b lb f o c R) {g : Nat} (e : o = some g) : B ≤ g ∧ g < w.heap.size := h.row.lt g (by rw [ad_block]; exact e)
theorem RLogAt.keep (h : RLogAt w B b lb f o c R) {P : Nat → Prop} (k : Keep P w w') (h1 : P lb) (h2 : ∀ g, o = some g → P g) : RLogAt w' B b lb f o c R :=
  ⟨(k.block lb h.lt h1).trans h.obj, row_heap h.row fun g e => by rw [ad_block] at e; exact k.block g (h.olt e).2 (h2 g e), h.ne⟩
theorem RLogAt.below (h : RLogAt w B b lb f o c R) (k : Below w.heap.size w w') : RLogAt w' B b lb f o c R := h.keep (P := fun _ => True) (Keep.of_below k) trivial fun _ _ => trivial
theorem rlogO_cells {v : Value} (h : w.heap[lb]? = some (rlogO b f v)) : w.cell? ⟨lb, 0, none⟩ = some (dp b) ∧ w.cell? ⟨lb, 1, none⟩ = some (.int .i64 f) ∧ w.cell? ⟨lb, 2, none⟩ = some v ∧ w.frozen? ⟨lb, 2, none⟩ = false := by
  refine ⟨?_, ?_, ?_, ?_⟩ <;> simp [World.cell?, World.frozen?, h, rlogO]
theorem rlogO_set {v : Value} (h : w.heap[lb]? = some (rlogO b f v)) (u : Value) : (w.setCell ⟨lb, 2, none⟩ u).heap[lb]? = some (rlogO b f u) := by
  simp [World.setCell, Array.getElem?_modify, h, rlogO]
end
/-- The reference's log beside its disk; P: the blocks of others, which stay. -/
structure RWal (w0 : World) (b lb : Nat) (f : Int) (P : Nat → Prop) (n : Nat) (w : World) (s : St) (R : List Bts) : Prop where
  at_ : ∃ o c, RLogAt w w0.heap.size b lb f o c R ∧ (∀ k, P k → k ≠ lb ∧ o ≠ some k) ∧ RHas w0 b (fun k => P k ∨ k = lb ∨ o = some k) n w s
  base : w0.heap.size ≤ lb
section
variable {w0 w w' : World} {b lb : Nat} {f : Int} {P : Nat → Prop} {n : Nat} {s : St} {R : List Bts}
theorem RWal.below_ (h : RWal w0 b lb f P n w s R) (hb : Below w.heap.size w w') : RWal w0 b lb f P n w' s R := by
  obtain ⟨o, c, hL, hP, hH⟩ := h.at_
  exact ⟨⟨o, c, hL.below hb, hP, hH.below_ hb⟩, h.base⟩
theorem RWal.has (h : RWal w0 b lb f P n w s R) : RHas w0 b P n w s := by
  obtain ⟨o, c, hL, hP, hH⟩ := h.at_
  exact hH.sub fun k q => .inl q
theorem RWal.below (h : RWal w0 b lb f P n w s R) : Below w0.heap.size w0 w := h.has.below
theorem RWal.lt (h : RWal w0 b lb f P n w s R) : lb < w.heap.size := by obtain ⟨o, c, hL, _⟩ := h.at_; exact hL.lt
theorem RWal.sub (h : RWal w0 b lb f P n w s R) {Q : Nat → Prop} (hq : ∀ k, Q k → P k) : RWal w0 b lb f Q n w s R := by
  obtain ⟨o, c, hL, hP, hH⟩ := h.at_
  exact ⟨⟨o, c, hL, fun k q => hP k (hq k q), hH.sub fun k q => q.imp (hq k) id⟩, h.base⟩
theorem RWal.more {m : Nat} (h : RWal w0 b lb f P n w s R) (hm : n ≤ m) : RWal w0 b lb f P m w s R := by
  obtain ⟨o, c, hL, hP, hH⟩ := h.at_
  exact ⟨⟨o, c, hL, hP, hH.more hm⟩, h.base⟩
theorem RWal.turn_ (h : RWal w0 b lb f P n w s R) {Q : Nat → Prop} (hos : w'.os = w.os) (htape : w'.tape = w.tape) (hout : w'.output = w.output) (hz : w.heap.size ≤ w'.heap.size)
    (hk : ∀ k, k < w.heap.size → ¬ P k ∨ k < w0.heap.size → w'.heap[k]? = w.heap[k]?) (hQ : ∀ k, Q k → (P k ∨ w.heap.size ≤ k) ∧ k < w'.heap.size) : RWal w0 b lb f Q n w' s R := by
  obtain ⟨o, c, hL, hP, hH⟩ := h.at_
  refine ⟨⟨o, c, ⟨(hk lb hL.lt (.inl fun q => (hP lb q).1 rfl)).trans hL.obj, row_heap hL.row fun g e => ?_, hL.ne⟩, fun k q => ?_, hH.turn_ hos htape hout hz (fun k hlt q => hk k hlt (q.imp (fun r z => r (.inl z)) id)) fun k q => ?_⟩, h.base⟩
  · rw [ad_block] at e
    exact hk g (hL.olt e).2 (.inl fun q => (hP g q).2 e)
  · rcases (hQ k q).1 with r | r
    · exact hP k r
    · have := hL.lt
      exact ⟨by omega, fun e => by have := hL.olt e; omega⟩
  · rcases q with q | q | q
    · exact ⟨(hQ k q).1.imp .inl id, (hQ k q).2⟩
    · subst q; exact ⟨.inl (.inr (.inl rfl)), Nat.lt_of_lt_of_le hL.lt hz⟩
    · exact ⟨.inl (.inr (.inr q)), Nat.lt_of_lt_of_le (hL.olt q).2 hz⟩
theorem Wal.turn_ (h : Wal w0 b lb f P n w s R) {Q : Nat → Prop} (hos : w'.os = w.os) (htape : w'.tape = w.tape) (hout : w'.output = w.output) (hz : w.heap.size ≤ w'.heap.size)
    (hk : ∀ k, k < w.heap.size → ¬ P k ∨ k < w0.heap.size → w'.heap[k]? = w.heap[k]?) (hQ : ∀ k, Q k → (P k ∨ w.heap.size ≤ k) ∧ k < w'.heap.size) : Wal w0 b lb f Q n w' s R := by
  obtain ⟨o, c, hL, hP, hH⟩ := h.at_
  refine ⟨⟨o, c, ⟨(hk lb hL.lt (.inl fun q => (hP lb q).1 rfl)).trans hL.obj, row_heap hL.row fun g e => ?_⟩, fun k q => ?_, hH.turn_ hos htape hout hz (fun k hlt q => hk k hlt (q.imp (fun r z => r (.inl z)) id)) fun k q => ?_⟩, h.base⟩
  · rw [ad_block] at e
    exact hk g (hL.olt e).2 (.inl fun q => (hP g q).2 e)
  · rcases (hQ k q).1 with r | r
    · exact hP k r
    · have := hL.lt
      exact ⟨by omega, fun e => by have := hL.olt e; omega⟩
  · rcases q with q | q | q
    · exact ⟨(hQ k q).1.imp .inl id, (hQ k q).2⟩
    · subst q; exact ⟨.inl (.inr (.inl rfl)), Nat.lt_of_lt_of_le hL.lt hz⟩
    · exact ⟨.inl (.inr (.inr q)), Nat.lt_of_lt_of_le (hL.olt q).2 hz⟩
end
def ROpenIs (w0 : World) (b : Nat) (f : Int) (P : Nat → Prop) (n : Nat) (s : St) (w : World) (e : Ending) (w' : World) : Prop :=
  Keep P w w' ∧ (((openS s f).1 = 0 ∧ ∃ lb, e = .returned (.tuple #[lp lb, .int .i64 0]) ∧ RWal w0 b lb f P n w' (openS s f).2 (rowsOf (s.data f.toNat)) ∧ w.heap.size ≤ lb) ∨
    ((openS s f).1 ≠ 0 ∧ e = .returned (.tuple #[.pointer none, .int .i64 (openS s f).1]) ∧ RHas w0 b P n w' (openS s f).2))
/-- On the way through Open: the disk, the rows read. -/
structure RO (w0 w1 : World) (b : Nat) (P : Nat → Prop) (n : Nat) (o : Option Nat) (c : Nat) (R : List Bts) (w : World) (s : St) : Prop where
  H : RHas w0 b (fun k => P k ∨ o = some k) n w s
  row : w.ownsRow w0.heap.size 9 1 (.slice (ad o) R.length c) R.length (strV R)
  ne : ∀ k, P k → o ≠ some k
  kp : Keep P w1 w
section
variable {w0 w1 w w' : World} {b : Nat} {f : Int} {P : Nat → Prop} {n n' : Nat} {s s' : St} {R : List Bts} {o : Option Nat} {c : Nat}
theorem RO.step (X : RO w0 w1 b P n o c R w s) (H : RHas w0 b (fun k => P k ∨ o = some k) n' w' s') (k : Keep (fun k => P k ∨ o = some k) w w') : RO w0 w1 b P n' o c R w' s' :=
  ⟨H, row_heap X.row fun g e => k.block g (X.row.lt g e).2 (.inr (by rw [ad_block] at e; exact e)), X.ne, X.kp.trans (k.sub fun _ q => .inl q)⟩
theorem RO.err (X : RO w0 w1 b P n o c R w s) : Keep P w1 w ∧ RHas w0 b P n w s := ⟨X.kp, X.H.sub fun _ q => .inl q⟩
theorem RO.ok (X : RO w0 w1 b P n o c R w s) : RWal w0 b w.heap.size f P n (w.alloc (rlogO b f (.slice (ad o) R.length c))) s R ∧ Keep P w1 (w.alloc (rlogO b f (.slice (ad o) R.length c))) ∧ w1.heap.size ≤ w.heap.size := by
  have hb := below_new w (rlogO b f (.slice (ad o) R.length c))
  have h0 := X.H.below.size
  refine ⟨⟨⟨o, c, ⟨heap_alloc_new w _, row_below X.row hb, fun e => ?_⟩, fun k q => ⟨?_, X.ne k q⟩, ?_⟩, h0⟩, X.kp.trans (Keep.of_below hb), X.kp.size⟩
  · have := X.H.lt _ (.inr e); omega
  · have := X.H.lt _ (.inl q); omega
  · refine (X.H.with_ hb (Q := fun k => k = w.heap.size) fun k q => ⟨by omega, by simp; omega⟩).sub fun k q => ?_
    rcases q with q | q | q
    · exact .inl (.inl q)
    · exact .inr q
    · exact .inl (.inr q)
theorem RO.make {w2 : World} (H : RHas w0 b P n w s) (hb : Below w.heap.size w w2) (hO : w2.ownsRow w.heap.size 9 1 (.slice (ad o) R.length c) R.length (strV R)) : RO w0 w b P n o c R w2 s := by
  have h0 := H.below.size
  refine ⟨H.with_ hb (Q := fun k => o = some k) fun k q => hO.lt k (by rw [ad_block]; exact q), owns_low hO h0, fun k q e => ?_, Keep.of_below hb⟩
  have := H.lt k q
  have := hO.lt k (by rw [ad_block]; exact e)
  omega
set_option maxRecDepth 100000 in
set_option maxHeartbeats 8000000 in
theorem ropen_any (h : RHas w0 b P n w s) (f : Int) (hn : n ≤ 999999) : Calls Try.prog 53 #[dp b, .int .i64 f] w (ROpenIs w0 b f P n s w) := by
  by_cases hf : f < 0 ∨ 6 < f
  · have e1 : openS s f = (1, s) := by unfold openS; rw [if_pos hf]
    have hlast : ROpenIs w0 b f P n s w (.returned (.tuple #[.pointer none, .int .i64 1])) w := ⟨Keep.refl _ _, .inr (by rw [e1]; exact ⟨by simp, rfl, h⟩)⟩
    unfold dp
    rcases Int.lt_or_le f 0 with h0 | h0
    · have g1 : decide (f < 0) = true := decide_eq_true h0
      go_enter Try.func53, Try.ntmps53
      go_wp2_with fail
      go_ret2
      exact hlast
    · have g1 : decide (f < 0) = false := decide_eq_false (by omega)
      have g2 : decide (6 < f) = true := decide_eq_true (by omega)
      go_enter Try.func53, Try.ntmps53
      go_wp2_with fail
      go_ret2
      exact hlast
  have g1 : decide (f < 0) = false := decide_eq_false (by omega)
  have g2 : decide (6 < f) = false := decide_eq_false (by omega)
  have hf2 := Lib.hid hf
  cases hd : s.down
  case true =>
    have KR := Lib.hid (h.read (by omega) f (x := []) (v := 9) (by unfold DK.read; rw [hd]; rfl))
    have e1 : openS s f = (9, s) := by unfold openS; rw [if_neg hf, hd]; rfl
    have hlast : ROpenIs w0 b f P n s w (.returned (.tuple #[.pointer none, .int .i64 9])) w := ⟨Keep.refl _ _, .inr (by rw [e1]; exact ⟨by simp, rfl, h⟩)⟩
    unfold dp at *
    clear hf
    go_enter Try.func53, Try.ntmps53
    go_wp2_with fail
    go_at_call 73
    refine KR.out.mono ?_
    rintro e w1 ⟨rfl, rfl⟩
    go_wp2_with fail
    go_ret2
    exact hlast
  have hnum : num f = true := num_iff.2 (by omega)
  obtain ⟨x, hx0⟩ : ∃ x, s.data f.toNat = x := ⟨_, rfl⟩
  have hxl : x.length ≤ 16777216 := by rw [← hx0]; exact h.ok.len _ (num_lt hnum)
  have KR := Lib.hid (h.read (by omega) f (x := x) (v := 0) (by unfold DK.read; rw [hd, if_neg (by simp), if_pos hnum, hx0]))
  have KX := Lib.hid (rrows_any x w (by omega))
  have z1 := bs_size x
  have hx : rowsOf (s.data f.toNat) = rowsOf x := by rw [hx0]
  have hw1 : IntKind.i64.wrap (f + 1) = f + 1 := by rw [IntKind.wrap_i64]; omega
  unfold dp at *
  go_enter Try.func53, Try.ntmps53
  go_wp2_with fail
  go_at_call 73
  refine KR.out.mono ?_
  rintro e w1 ⟨rfl, rfl⟩
  go_wp2_with fail
  go_at_call 74
  refine KX.out.mono ?_
  rintro e w2 ⟨hb, o, c, rfl, hO⟩
  obtain ⟨R, hR⟩ : ∃ R, rowsOf x = R := ⟨_, rfl⟩
  rw [hR] at hO hx ⊢
  obtain ⟨m, hm⟩ : ∃ m, (recs R).length = m := ⟨_, rfl⟩
  rw [hm]
  have X0 := RO.make h hb hO
  have hrl : (recs R).length ≤ x.length := by rw [← hR]; exact (rowsOf_is x).le
  clear hO hb KR KX
  by_cases q0 : m < x.length
  case pos =>
    have q1 : (m : Int) < (x.length : Int) := by omega
    obtain ⟨v1, s1, e1⟩ : ∃ v s', DK.cut s f (m : Int) = (v, s') := ⟨_, _, rfl⟩
    have hO1 : open1 s f = (v1, s1) := by rw [open_1, hx, hm, hx0, if_pos q0]; exact e1
    have K1 := Lib.hid (X0.H.cut f (m : Int) hn (v := v1) (s' := s1) (by rw [e1]) (by rw [e1]))
    unfold dp at K1
    replace hO1 := Lib.hid hO1
    clear e1
    go_wp2_with fail
    go_at_call 75
    refine K1.out.mono ?_
    rintro e w3 ⟨rfl, H_, k_⟩
    have X1 := X0.step H_ k_
    clear H_ k_ K1
    by_cases g1 : v1 = 0
    case neg =>
      have g4 : (v1 != 0) = true := by rw [bne_iff_ne]; exact g1
      have g5 : (v1 == 0) = false := by rw [beq_eq_false_iff_ne]; exact g1
      have hOS : openS s f = (v1, _) := open_1e hf hd hO1.out g1
      go_wp2_with fail
      go_ret2
      obtain ⟨r1, r2⟩ := X1.err
      refine ⟨r1, .inr ?_⟩
      rw [hOS]
      exact ⟨g1, rfl, r2⟩
    case pos =>
    subst g1
    obtain ⟨z, ez⟩ : ∃ z, DK.size s1 (f + 1) = z := ⟨_, rfl⟩
    have KZ := Lib.hid (X1.H.size (by omega) (f + 1) ez)
    unfold dp at KZ
    go_wp2_with fail
    go_at_call 34
    refine KZ.out.mono ?_
    rintro e _ ⟨rfl, rfl⟩
    clear KZ
    by_cases q2 : 0 < z
    case pos =>
      have q3 : decide (0 < z) = true := decide_eq_true q2
      obtain ⟨v2, s2, e2⟩ : ∃ v s', DK.cut s1 (f + 1) 0 = (v, s') := ⟨_, _, rfl⟩
      have hO2 : open2 s1 f = (v2, s2) := by unfold open2; rw [ez, if_pos q2]; exact e2
      have K2 := Lib.hid (X1.H.cut (f + 1) 0 hn (v := v2) (s' := s2) (by rw [e2]) (by rw [e2]))
      unfold dp at K2
      replace hO2 := Lib.hid hO2
      clear ez e2
      go_wp2_with fail
      go_at_call 75
      refine K2.out.mono ?_
      rintro e w4 ⟨rfl, H_, k_⟩
      have X2 := X1.step H_ k_
      clear H_ k_ K2
      by_cases g2 : v2 = 0
      case neg =>
        have g4 : (v2 != 0) = true := by rw [bne_iff_ne]; exact g2
        have g5 : (v2 == 0) = false := by rw [beq_eq_false_iff_ne]; exact g2
        have hOS : openS s f = (v2, _) := open_2 hf hd hO1.out hO2.out g2
        go_wp2_with fail
        go_ret2
        obtain ⟨r1, r2⟩ := X2.err
        refine ⟨r1, .inr ?_⟩
        rw [hOS]
        exact ⟨g2, rfl, r2⟩
      case pos =>
      subst g2
      obtain ⟨v3, s3, e3⟩ : ∃ v s', DK.flush s2 f = (v, s') := ⟨_, _, rfl⟩
      have K3 := Lib.hid (X2.H.flush f hn (v := v3) (s' := s3) (by rw [e3]) (by rw [e3]))
      unfold dp at K3
      replace e3 := Lib.hid e3
      go_wp2_with fail
      go_at_call 76
      refine K3.out.mono ?_
      rintro e w5 ⟨rfl, H_, k_⟩
      have X3 := X2.step H_ k_
      clear H_ k_ K3
      by_cases g3 : v3 = 0
      · subst g3
        have hOS : openS s f = (0, _) := open_3 hf hd hO1.out hO2.out e3.out
        go_wp2_with fail
        go_ret2
        obtain ⟨r1, r2, r3⟩ := X3.ok (f := f)
        refine ⟨r2, .inl ?_⟩
        rw [hOS, hx]
        exact ⟨rfl, _, rfl, r1, r3⟩
      · have g4 : (v3 != 0) = true := by rw [bne_iff_ne]; exact g3
        have hOS : openS s f = (v3, _) := open_3 hf hd hO1.out hO2.out e3.out
        go_wp2_with fail
        go_ret2
        obtain ⟨r1, r2⟩ := X3.err
        refine ⟨r1, .inr ?_⟩
        rw [hOS]
        exact ⟨g3, rfl, r2⟩
    case neg =>
      have q3 : decide (0 < z) = false := decide_eq_false q2
      have hO2 : open2 s1 f = (0, s1) := by unfold open2; rw [ez, if_neg q2]
      replace hO2 := Lib.hid hO2
      clear ez
      obtain ⟨v3, s3, e3⟩ : ∃ v s', DK.flush s1 f = (v, s') := ⟨_, _, rfl⟩
      have K3 := Lib.hid (X1.H.flush f hn (v := v3) (s' := s3) (by rw [e3]) (by rw [e3]))
      unfold dp at K3
      replace e3 := Lib.hid e3
      go_wp2_with fail
      go_at_call 76
      refine K3.out.mono ?_
      rintro e w5 ⟨rfl, H_, k_⟩
      have X3 := X1.step H_ k_
      clear H_ k_ K3
      by_cases g3 : v3 = 0
      · subst g3
        have hOS : openS s f = (0, _) := open_3 hf hd hO1.out hO2.out e3.out
        go_wp2_with fail
        go_ret2
        obtain ⟨r1, r2, r3⟩ := X3.ok (f := f)
        refine ⟨r2, .inl ?_⟩
        rw [hOS, hx]
        exact ⟨rfl, _, rfl, r1, r3⟩
      · have g4 : (v3 != 0) = true := by rw [bne_iff_ne]; exact g3
        have hOS : openS s f = (v3, _) := open_3 hf hd hO1.out hO2.out e3.out
        go_wp2_with fail
        go_ret2
        obtain ⟨r1, r2⟩ := X3.err
        refine ⟨r1, .inr ?_⟩
        rw [hOS]
        exact ⟨g3, rfl, r2⟩
  case neg =>
    have q1 : ¬ (m : Int) < (x.length : Int) := by omega
    have hO1 : open1 s f = (0, s) := by rw [open_1, hx, hm, hx0, if_neg q0]
    replace hO1 := Lib.hid hO1
    obtain ⟨z, ez⟩ : ∃ z, DK.size s (f + 1) = z := ⟨_, rfl⟩
    have KZ := Lib.hid (X0.H.size (by omega) (f + 1) ez)
    unfold dp at KZ
    go_wp2_with fail
    go_at_call 34
    refine KZ.out.mono ?_
    rintro e _ ⟨rfl, rfl⟩
    clear KZ
    by_cases q2 : 0 < z
    case pos =>
      have q3 : decide (0 < z) = true := decide_eq_true q2
      obtain ⟨v2, s2, e2⟩ : ∃ v s', DK.cut s (f + 1) 0 = (v, s') := ⟨_, _, rfl⟩
      have hO2 : open2 s f = (v2, s2) := by unfold open2; rw [ez, if_pos q2]; exact e2
      have K2 := Lib.hid (X0.H.cut (f + 1) 0 hn (v := v2) (s' := s2) (by rw [e2]) (by rw [e2]))
      unfold dp at K2
      replace hO2 := Lib.hid hO2
      clear ez e2
      go_wp2_with fail
      go_at_call 75
      refine K2.out.mono ?_
      rintro e w4 ⟨rfl, H_, k_⟩
      have X2 := X0.step H_ k_
      clear H_ k_ K2
      by_cases g2 : v2 = 0
      case neg =>
        have g4 : (v2 != 0) = true := by rw [bne_iff_ne]; exact g2
        have g5 : (v2 == 0) = false := by rw [beq_eq_false_iff_ne]; exact g2
        have hOS : openS s f = (v2, _) := open_2 hf hd hO1.out hO2.out g2
        go_wp2_with fail
        go_ret2
        obtain ⟨r1, r2⟩ := X2.err
        refine ⟨r1, .inr ?_⟩
        rw [hOS]
        exact ⟨g2, rfl, r2⟩
      case pos =>
      subst g2
      obtain ⟨v3, s3, e3⟩ : ∃ v s', DK.flush s2 f = (v, s') := ⟨_, _, rfl⟩
      have K3 := Lib.hid (X2.H.flush f hn (v := v3) (s' := s3) (by rw [e3]) (by rw [e3]))
      unfold dp at K3
      replace e3 := Lib.hid e3
      go_wp2_with fail
      go_at_call 76
      refine K3.out.mono ?_
      rintro e w5 ⟨rfl, H_, k_⟩
      have X3 := X2.step H_ k_
      clear H_ k_ K3
      by_cases g3 : v3 = 0
      · subst g3
        have hOS : openS s f = (0, _) := open_3 hf hd hO1.out hO2.out e3.out
        go_wp2_with fail
        go_ret2
        obtain ⟨r1, r2, r3⟩ := X3.ok (f := f)
        refine ⟨r2, .inl ?_⟩
        rw [hOS, hx]
        exact ⟨rfl, _, rfl, r1, r3⟩
      · have g4 : (v3 != 0) = true := by rw [bne_iff_ne]; exact g3
        have hOS : openS s f = (v3, _) := open_3 hf hd hO1.out hO2.out e3.out
        go_wp2_with fail
        go_ret2
        obtain ⟨r1, r2⟩ := X3.err
        refine ⟨r1, .inr ?_⟩
        rw [hOS]
        exact ⟨g3, rfl, r2⟩
    case neg =>
      have q3 : decide (0 < z) = false := decide_eq_false q2
      have hO2 : open2 s f = (0, s) := by unfold open2; rw [ez, if_neg q2]
      replace hO2 := Lib.hid hO2
      clear ez
      obtain ⟨v3, s3, e3⟩ : ∃ v s', DK.flush s f = (v, s') := ⟨_, _, rfl⟩
      have K3 := Lib.hid (X0.H.flush f hn (v := v3) (s' := s3) (by rw [e3]) (by rw [e3]))
      unfold dp at K3
      replace e3 := Lib.hid e3
      go_wp2_with fail
      go_at_call 76
      refine K3.out.mono ?_
      rintro e w5 ⟨rfl, H_, k_⟩
      have X3 := X0.step H_ k_
      clear H_ k_ K3
      by_cases g3 : v3 = 0
      · subst g3
        have hOS : openS s f = (0, _) := open_3 hf hd hO1.out hO2.out e3.out
        go_wp2_with fail
        go_ret2
        obtain ⟨r1, r2, r3⟩ := X3.ok (f := f)
        refine ⟨r2, .inl ?_⟩
        rw [hOS, hx]
        exact ⟨rfl, _, rfl, r1, r3⟩
      · have g4 : (v3 != 0) = true := by rw [bne_iff_ne]; exact g3
        have hOS : openS s f = (v3, _) := open_3 hf hd hO1.out hO2.out e3.out
        go_wp2_with fail
        go_ret2
        obtain ⟨r1, r2⟩ := X3.err
        refine ⟨r1, .inr ?_⟩
        rw [hOS]
        exact ⟨g3, rfl, r2⟩
end
end Go.Proofs.Ytmnimcdbfolhaaa

/- Append, Flush, All, Len of the reference's log. -/
namespace Go.Proofs.Ytmnimcdbfolhaaa
open Go.RowKit DK
attribute [local go_sem] alloc_drewN setCell_drewN shape_drewN
section
variable {w0 w w' w5 : World} {b lb : Nat} {f : Int} {P : Nat → Prop} {n : Nat} {s : St} {R m : List Bts} {o o5 : Option Nat} {c c9 : Nat}
theorem RWal.put (H : RHas w0 b (fun k => P k ∨ k = lb ∨ o = some k) n w s) (hL : RLogAt w w0.heap.size b lb f o c R) (hP : ∀ k, P k → k ≠ lb ∧ o ≠ some k) (hb : w0.heap.size ≤ lb) (hB : Below w.heap.size w w5)
    (hO : w5.ownsRow w.heap.size 9 1 (.slice (ad o5) m.length c9) m.length (strV m)) :
    RWal w0 b lb f P n (w5.setCell ⟨lb, 2, none⟩ (.slice (ad o5) m.length c9)) s m ∧ Keep P w (w5.setCell ⟨lb, 2, none⟩ (.slice (ad o5) m.length c9)) := by
  have hlb := hL.lt
  have h0 := H.below.size
  have hW : ∀ k, k < w.heap.size → k ≠ lb → (w5.setCell ⟨lb, 2, none⟩ (.slice (ad o5) m.length c9)).heap[k]? = w.heap[k]? := fun k hk h1 => (Below.heap_setCell _ _ _ _ h1).trans (hB.block k hk)
  have hz : w.heap.size ≤ (w5.setCell ⟨lb, 2, none⟩ (.slice (ad o5) m.length c9)).heap.size := by have := hB.size; simpa using this
  have hOl : ∀ {k}, o5 = some k → w.heap.size ≤ k ∧ k < w5.heap.size := fun {k} e => hO.lt k (by rw [ad_block]; exact e)
  refine ⟨⟨⟨o5, c9, ⟨rlogO_set ((hB.block lb hlb).trans hL.obj) _, row_heap (owns_low hO h0) fun k hk => Below.heap_setCell _ _ _ _ (show k ≠ lb by have := hO.lt k hk; omega), fun e => by have := hOl e; omega⟩, fun k hk => ⟨(hP k hk).1, fun e => ?_⟩, H.turn_ hB.os hB.tape hB.output hz (fun k hk q => hW k hk fun e => ?_) fun k q => ⟨?_, ?_⟩⟩, hb⟩, ⟨hz, fun k hk hp => hW k hk (hP k hp).1⟩⟩
  · have := hOl e
    have := H.lt k (.inl hk); omega
  · rcases q with q | q
    · exact q (.inr (.inl e))
    · omega
  · rcases q with q | q | q
    · exact .inl (.inl q)
    · exact .inl (.inr (.inl q))
    · exact .inr (hOl q).1
  · rcases q with q | q | q
    · exact Nat.lt_of_lt_of_le (H.lt k (.inl q)) hz
    · omega
    · have := (hOl q).2; simpa using this
set_option maxRecDepth 100000 in
set_option maxHeartbeats 4000000 in
theorem rwapp_any (h : RWal w0 b lb f P n w s R) (x : Bts) (hx : x.length ≤ 4611686018427387904) (hR : R.length ≤ 1000000000) (hn : n ≤ 999999) {v : Int} {s' : St} {R' : List Bts} (hv : wappS s f R x = (v, s', R')) :
    Calls Try.prog 54 #[lp lb, .string (bs x)] w fun e w' => e = .returned (.int .i64 v) ∧ RWal w0 b lb f P (n + 1) w' s' R' ∧ Keep P w w' := by
  have z1 := bs_size x
  unfold wappS at hv
  unfold lp
  by_cases hl : 1048576 < x.length
  · rw [if_pos hl] at hv
    injection hv with v1 v2
    injection v2 with v2 v3
    subst v1; subst v2; subst v3
    have g1 : (1048576 : Int) < (x.length : Int) := by omega
    go_enter Try.func54, Try.ntmps54
    go_wp2_with fail
    go_ret
    exact ⟨rfl, h.more (Nat.le_succ _), Keep.refl _ _⟩
  rw [if_neg hl] at hv
  have g1 : ¬ (1048576 : Int) < (x.length : Int) := by omega
  obtain ⟨o, c, hL, hP, H⟩ := h.at_
  obtain ⟨c0, c1, c2, f2⟩ := rlogO_cells hL.obj
  have KR := Lib.hid fun wx => rrecord_any x wx (by omega)
  have hlb := hL.lt
  have hbase := h.base
  obtain ⟨v1, s1, ev⟩ : ∃ v1 s1, DK.append s f (recd x) = (v1, s1) := ⟨_, _, rfl⟩
  rw [ev] at hv
  have KA := Lib.hid fun wx (hb : Below w.heap.size w wx) => (H.below_ hb).append f (recd x) (by rw [recd_len]; omega) hn (v := v1) (s' := s1) (by rw [ev]) (by rw [ev])
  unfold dp at KA c0
  obtain ⟨i0, hi, hz0, hz1, hz2⟩ := info_parts (show (Try.prog.info? 9).map (fun i => (i.zero, i.size, i.bytes)) = some (some (.string ⟨#[]⟩), 1, 16) by kernel_rfl)
  clear ev
  go_enter Try.func54, Try.ntmps54
  go_upto_region 3 with fail
  refine Plan.wp_region_treeS (fun wx => wx.cell? ⟨lb, 0, none⟩ = some (.pointer (some ⟨b, 0, none⟩)) ∧ wx.cell? ⟨lb, 1, none⟩ = some (.int .i64 f)) (.rd 0 (.rd 1 (.rd 2 (.rd 3 (.rd 4 (.rd 5 (.rd 6 (.rd 7 (.rd 8 (.wr 9 (.wr 10 (.rd 11 .done)))))))))))) (by kernel_rfl) (by kernel_rfl) ⟨c0, c1⟩ ?_
  (repeat (refine Plan.tree_read (v := ?_) rfl rfl ?_ ?_; rotate_left; (focus ((intro wS hSw; (try dsimp only at hSw); go_simp); try with_reducible rfl)); simp only [Act.put, List.setIfInBounds_toArray, List.set_cons_zero, List.set_cons_succ]))
  (refine Plan.tree_write rfl (fun K hK => ?_); try go_simp)
  go_at_call 77
  refine (KR.out _).mono ?_
  rintro e wa ⟨rfl, hba⟩
  have hba2 := (Below.refl _ _).drew.trans hba
  (refine hK.out _ _ (⟨(hba2.cell (p := ⟨lb, 0, none⟩) hlb).trans c0, (hba2.cell (p := ⟨lb, 1, none⟩) hlb).trans c1⟩) ?_; clear hK K; try simp only [Act.put, List.setIfInBounds_toArray, List.set_cons_zero, List.set_cons_succ])
  (repeat (refine Plan.tree_read (v := ?_) rfl rfl ?_ ?_; rotate_left; (focus ((intro wS hSw; (try dsimp only at hSw); go_simp); try with_reducible rfl)); simp only [Act.put, List.setIfInBounds_toArray, List.set_cons_zero, List.set_cons_succ]))
  (refine Plan.tree_write rfl (fun K hK => ?_); try go_simp)
  go_at_call 28
  refine (KA.out _ hba2).mono ?_
  rintro e wb ⟨rfl, H2, k2⟩
  have hL2 := (hL.below hba2).keep k2 (.inr (.inl rfl)) (fun g e => .inr (.inr e))
  obtain ⟨d0, d1, d2, d3⟩ := rlogO_cells hL2.obj
  (refine hK.out _ _ (⟨d0, d1⟩) ?_; clear hK K; try simp only [Act.put, List.setIfInBounds_toArray, List.set_cons_zero, List.set_cons_succ])
  (repeat (refine Plan.tree_read (v := ?_) rfl rfl ?_ ?_; rotate_left; (focus ((intro wS hSw; (try dsimp only at hSw); go_simp); try with_reducible rfl)); simp only [Act.put, List.setIfInBounds_toArray, List.set_cons_zero, List.set_cons_succ]))
  refine Plan.tree_done ?_
  have kk : Keep (fun k => P k ∨ k = lb ∨ o = some k) w wb := (Keep.of_below hba2).trans k2
  clear KR KA c0 c1 c2 f2 hba hba2 k2
  by_cases g : v1 = 0
  case neg =>
    have g2 : (v1 != 0) = true := by rw [bne_iff_ne]; exact g
    have g3 : (v1 == 0) = false := by rw [beq_eq_false_iff_ne]; exact g
    rw [if_neg g] at hv
    injection hv with e1 e2
    injection e2 with e2 e3
    subst e1; subst e2; subst e3
    go_wp2_with fail
    go_ret
    exact ⟨rfl, ⟨⟨o, c, hL2, hP, H2⟩, hbase⟩, kk.sub fun k q => .inl q⟩
  subst g
  rw [if_pos rfl] at hv
  injection hv with e1 e2
  injection e2 with e2 e3
  subst e1; subst e2; subst e3
  have hlb2 := hL2.lt
  have hr := Reads.of_own hL2.row
  have hO0 := Lib.hid (World.ownsRow_made (e := 9) (size := 1) wb #[] 0 (Nat.le_refl _) (Nat.zero_le _) rfl)
  obtain ⟨nr, hnr⟩ : ∃ nr, R.length = nr := ⟨_, rfl⟩
  rw [hnr] at d2 hr hR
  replace hr := Lib.hid hr
  go_wp2_with (first | (at_builtin; refine wpList_append_any _ (by rfl) _ _ 22 (by rfl) wb.heap.size 9 i0 _ 1 16 Try.underlying22 hi hz0 hz1 hz2 rfl (by decide) _ 0 [] (by rfl) hO0.out _ (ad o) nr c _ (by rfl) (hr.out.alloc (Nat.le_refl _) _) (fun u hu => by obtain ⟨x, _, rfl⟩ := List.mem_map.1 hu; rfl) (by unfold maxLen; omega) (by omega) (by simp) ?_; intro v' w3 hO3 hG3 hob3; obtain ⟨o3, cc3, hv3, _⟩ := ad_of_owns hO3; subst hv3; have hB3 := Lib.hid ((below_new wb (.cells #[] 9)).trans (below_own hO0.out (by simp) hG3)); rw [Nat.zero_add] at hO3; replace hO3 := Lib.hid hO3; clear hG3 hob3; have hz3 := hB3.out.size) | (at_builtin; refine wpList_append_any _ (by rfl) _ _ 22 (by rfl) wb.heap.size 9 i0 _ 1 16 Try.underlying22 hi hz0 hz1 hz2 rfl (by decide) _ nr _ (by rfl) (hO3.out.alloc _) (_ + 1) (some ⟨w3.heap.size, 0, none⟩) 1 1 [.string (bs x)] (by rfl) ⟨rfl, fun _ => ⟨_, rfl, Nat.lt_succ_self _, cells_at (by rfl) _ _⟩⟩ (fun u hu => by obtain rfl := List.mem_singleton.1 hu; rfl) (by unfold maxLen; omega) (by omega) (by simp; omega) ?_; intro v' w4 hO4 hG4 hob4; obtain ⟨o4, cc4, hv4, _⟩ := ad_of_owns hO4; subst hv4; have hB4 := Lib.hid (hB3.out.trans (below_app hO3.out hz3 hG4)); replace hO4 := Lib.hid hO4; clear hG4 hob4; have y0 := (hB4.out.cell (p := ⟨lb, 2, none⟩) hlb2).trans d2; have y1 := (hB4.out.frozen (p := ⟨lb, 2, none⟩) hlb2).trans d3) | fail)
  go_ret
  have hl1 : (R ++ [x]).length = nr + 1 := by rw [List.length_append, hnr]; rfl
  obtain ⟨r1, r2⟩ := RWal.put (m := R ++ [x]) (c9 := cc4) (o5 := o4) H2 hL2 hP hbase hB4.out (by rw [hl1, strV_snoc]; exact hO4.out)
  rw [hl1] at r1 r2
  exact ⟨rfl, r1, (kk.sub fun k q => .inl q).trans r2⟩
theorem rwflush_any (h : RWal w0 b lb f P n w s R) (hn : n ≤ 999999) {v : Int} {s' : St} (hv : DK.flush s f = (v, s')) :
    Calls Try.prog 55 #[lp lb] w fun e w' => e = .returned (.int .i64 v) ∧ RWal w0 b lb f P n w' s' R ∧ Keep P w w' := by
  obtain ⟨o, c, hL, hP, H⟩ := h.at_
  obtain ⟨c0, c1, c2, f2⟩ := rlogO_cells hL.obj
  have hbase := h.base
  have KA := Lib.hid fun wx (hb : Below w.heap.size w wx) => (H.below_ hb).flush f hn (v := v) (s' := s') (by rw [hv]) (by rw [hv])
  unfold dp at KA c0
  unfold lp
  go_enter Try.func55, Try.ntmps55
  go_upto_region 1 with fail
  refine Plan.wp_region_treeS (fun wx => wx.cell? ⟨lb, 0, none⟩ = some (.pointer (some ⟨b, 0, none⟩)) ∧ wx.cell? ⟨lb, 1, none⟩ = some (.int .i64 f)) (.rd 0 (.rd 1 (.rd 2 (.rd 3 (.rd 4 (.rd 5 (.rd 6 (.rd 7 (.wr 8 (.rd 9 .done)))))))))) (by kernel_rfl) (by kernel_rfl) ⟨c0, c1⟩ ?_
  (repeat (refine Plan.tree_read (v := ?_) rfl rfl ?_ ?_; rotate_left; (focus ((intro wS hSw; (try dsimp only at hSw); go_simp); try with_reducible rfl)); simp only [Act.put, List.setIfInBounds_toArray, List.set_cons_zero, List.set_cons_succ]))
  (refine Plan.tree_write rfl (fun K hK => ?_); try go_simp)
  go_at_call 76
  refine (KA.out _ (Below.refl _ _).drew).mono ?_
  rintro e wb ⟨rfl, H2, k2⟩
  have hL2 := (hL.below (Below.refl _ _).drew).keep k2 (.inr (.inl rfl)) (fun g e => .inr (.inr e))
  obtain ⟨d0, d1, d2, d3⟩ := rlogO_cells hL2.obj
  (refine hK.out _ _ (⟨d0, d1⟩) ?_; clear hK K; try simp only [Act.put, List.setIfInBounds_toArray, List.set_cons_zero, List.set_cons_succ])
  (repeat (refine Plan.tree_read (v := ?_) rfl rfl ?_ ?_; rotate_left; (focus ((intro wS hSw; (try dsimp only at hSw); go_simp); try with_reducible rfl)); simp only [Act.put, List.setIfInBounds_toArray, List.set_cons_zero, List.set_cons_succ]))
  refine Plan.tree_done ?_
  have kk : Keep (fun k => P k ∨ k = lb ∨ o = some k) w wb := (Keep.of_below (Below.refl _ _).drew).trans k2
  go_wp2_with fail
  go_ret
  exact ⟨rfl, ⟨⟨o, c, hL2, hP, H2⟩, hbase⟩, kk.sub fun k q => .inl q⟩
theorem rlen_any (h : RWal w0 b lb f P n w s R) : Calls Try.prog 33 #[lp lb] w fun e w' => e = .returned (.int .i64 (R.length : Nat)) ∧ w = w' := by
  obtain ⟨o, c, hL, _⟩ := h.at_
  obtain ⟨c0, c1, c2, f2⟩ := rlogO_cells hL.obj
  unfold lp
  go_enter Try.func33, Try.ntmps33
  go_wp2_with fail
  go_ret
  exact ⟨rfl, rfl⟩
theorem rall_any (h : RWal w0 b lb f P n w s R) (hR : R.length ≤ 1000000000) : Calls Try.prog 31 #[lp lb] w (StrsNew w R) := by
  obtain ⟨o, c, hL, _⟩ := h.at_
  obtain ⟨c0, c1, c2, f2⟩ := rlogO_cells hL.obj
  obtain ⟨i0, hi, hz0, hz1, hz2⟩ := info_parts (show (Try.prog.info? 9).map (fun i => (i.zero, i.size, i.bytes)) = some (some (.string ⟨#[]⟩), 1, 16) by kernel_rfl)
  have hr := Reads.of_own hL.row
  have hO0 := Lib.hid (World.ownsRow_made (e := 9) (size := 1) w #[] 0 (Nat.le_refl _) (Nat.zero_le _) rfl)
  have hlb := hL.lt
  obtain ⟨nr, hnr⟩ : ∃ nr, R.length = nr := ⟨_, rfl⟩
  rw [hnr] at c2 hr hR
  replace hr := Lib.hid hr
  unfold lp
  go_enter Try.func31, Try.ntmps31
  go_wp2_with (first | (at_builtin; refine wpList_append_any _ (by rfl) _ _ 22 (by rfl) w.heap.size 9 i0 _ 1 16 Try.underlying22 hi hz0 hz1 hz2 rfl (by decide) _ 0 [] (by rfl) hO0.out _ (ad o) nr c _ (by rfl) (hr.out.alloc (Nat.le_refl _) _) (fun u hu => by obtain ⟨x, _, rfl⟩ := List.mem_map.1 hu; rfl) (by unfold maxLen; omega) (by omega) (by simp) ?_; intro v' w3 hO3 hG3 hob3; obtain ⟨o3, cc3, hv3, _⟩ := ad_of_owns hO3; subst hv3; have hB3 := Lib.hid ((below_new w (.cells #[] 9)).trans (below_own hO0.out (by simp) hG3)); rw [Nat.zero_add, List.nil_append] at hO3; replace hO3 := Lib.hid hO3; clear hG3 hob3; have hz3 := hB3.out.size) | fail)
  go_ret
  refine ⟨hB3.out, o3, cc3, ?_, by rw [hnr]; exact hO3.out⟩
  rw [hnr]; rfl
end
end Go.Proofs.Ytmnimcdbfolhaaa

/- Rewrite of the reference's log. -/
namespace Go.Proofs.Ytmnimcdbfolhaaa
open Go.RowKit DK
attribute [local go_sem] alloc_drewN setCell_drewN shape_drewN
/-- On the way through Rewrite. -/
structure RR (w0 w1 : World) (b lb : Nat) (f : Int) (P : Nat → Prop) (n : Nat) (o : Option Nat) (c : Nat) (R : List Bts) (w : World) (s : St) : Prop where
  L : RLogAt w w0.heap.size b lb f o c R
  hP : ∀ k, P k → k ≠ lb ∧ o ≠ some k
  H : RHas w0 b (fun k => P k ∨ k = lb ∨ o = some k) n w s
  kp : Keep (fun k => P k ∨ k = lb ∨ o = some k) w1 w
  base : w0.heap.size ≤ lb
section
variable {w0 w1 w w' : World} {b lb : Nat} {f : Int} {P : Nat → Prop} {n n' n1 : Nat} {s s' : St} {R m : List Bts} {o : Option Nat} {c : Nat}
theorem RR.step (X : RR w0 w1 b lb f P n o c R w s) (H : RHas w0 b (fun k => P k ∨ k = lb ∨ o = some k) n' w' s') (k : Keep (fun k => P k ∨ k = lb ∨ o = some k) w w') : RR w0 w1 b lb f P n' o c R w' s' :=
  ⟨X.L.keep k (.inr (.inl rfl)) (fun _ e => .inr (.inr e)), X.hP, H, X.kp.trans k, X.base⟩
theorem RR.below (X : RR w0 w1 b lb f P n o c R w s) (hb : Below w.heap.size w w') : RR w0 w1 b lb f P n o c R w' s := X.step (X.H.below_ hb) (Keep.of_below hb)
theorem RR.err (X : RR w0 w1 b lb f P n o c R w s) : RWal w0 b lb f P (n + 1) w s R ∧ Keep P w1 w :=
  ⟨⟨⟨o, c, X.L, X.hP, X.H.more (Nat.le_succ _)⟩, X.base⟩, X.kp.sub fun _ q => .inl q⟩
theorem RR.err1 (X : RR w0 w1 b lb f P (n + 1) o c R w s) : RWal w0 b lb f P (n + 1) w s R ∧ Keep P w1 w :=
  ⟨⟨⟨o, c, X.L, X.hP, X.H⟩, X.base⟩, X.kp.sub fun _ q => .inl q⟩
theorem RR.put {w5 : World} {o5 : Option Nat} {c9 : Nat} (X : RR w0 w1 b lb f P n o c R w s) (hB : Below w.heap.size w w5) (hO : w5.ownsRow w.heap.size 9 1 (.slice (ad o5) m.length c9) m.length (strV m)) :
    RWal w0 b lb f P n (w5.setCell ⟨lb, 2, none⟩ (.slice (ad o5) m.length c9)) s m ∧ Keep P w1 (w5.setCell ⟨lb, 2, none⟩ (.slice (ad o5) m.length c9)) := by
  obtain ⟨r1, r2⟩ := RWal.put X.H X.L X.hP X.base hB hO
  exact ⟨r1, (X.kp.sub fun _ q => .inl q).trans r2⟩
theorem StrsP.keep2 {A : Option Addr} {l : List Bts} (h : StrsP P w A l) (k : Keep P w w') : StrsP P w' A l := h.keep k
set_option maxRecDepth 100000 in
set_option maxHeartbeats 8000000 in
theorem rwrew_any (h : RWal w0 b lb f P n w s R) (hf : 0 ≤ f ∧ f ≤ 6) (A : Option Addr) (c : Nat) (hA : StrsP P w A m) (hm : Hid (∀ x ∈ m, x.length ≤ 1048576)) (hlen : (recs m).length ≤ 100000000) (hn : n ≤ 999998) {v : Int} {s' : St} {R' : List Bts} (hv : wrewS s f R m = (v, s', R')) :
    Calls Try.prog 58 #[lp lb, .slice A m.length c] w fun e w' => e = .returned (.int .i64 v) ∧ RWal w0 b lb f P (n + 1) w' s' R' ∧ Keep P w w' := by
  have hml := recs_many m
  have hA0 := Lib.hid hA.at_
  obtain ⟨o, c5, hL, hP, H⟩ := h.at_
  have X : RR w0 w b lb f P n o c5 R w s := ⟨hL, hP, H, Keep.refl _ _, h.base⟩
  clear hL hP H h
  obtain ⟨i0, hi, hz0, hz1, hz2⟩ := info_parts (show (Try.prog.info? 9).map (fun i => (i.zero, i.size, i.bytes)) = some (some (.string ⟨#[]⟩), 1, 16) by kernel_rfl)
  obtain ⟨c0, c1, c2, f2⟩ := rlogO_cells X.L.obj
  unfold lp
  unfold dp at c0
  have hw1 : IntKind.i64.wrap (f + 1) = f + 1 := by rw [IntKind.wrap_i64]; omega
  go_enter Try.func58, Try.ntmps58
  go_wp2_with fail
  go_loop [5] (fun u5 => ∃ k : Nat, k ≤ m.length ∧ u5 = .int .i64 k) (fun u5 => m.length - (intOf u5).toNat)
  case atStart => exact ⟨0, Nat.zero_le _, rfl⟩
  case round =>
    obtain ⟨k, hk, rfl⟩ := hrel
    by_cases hlt : k < m.length
    · have e1 : (k : Int) < (m.length : Int) := by omega
      obtain ⟨x, hx⟩ : ∃ x, m[k]? = some x := ⟨_, List.getElem?_eq_getElem hlt⟩
      obtain ⟨ab, ao, rfl, hab, hac⟩ := hA0.out.at_ hx
      have z1 := bs_size x
      have e2 : ¬ (1048576 : Int) < (x.length : Int) := by have := hm.out x (List.mem_of_getElem? hx); omega
      go_wp2_with fail
      go_round
      case rel => exact ⟨k + 1, by omega, by go_num⟩
      case measure => simp [intOf]; omega
    · have e1 : ¬ (k : Int) < (m.length : Int) := by omega
      obtain ⟨z, ez⟩ : ∃ z, DK.size s (f + 1) = z := ⟨_, rfl⟩
      have KZ := Lib.hid fun wx (hb : Below _ _ wx) => (X.H.below_ hb).size (by omega) (f + 1) ez
      unfold dp at KZ
      unfold wrewS at hv
      go_upto_region 7 with fail
      refine Plan.wp_region_treeS (fun wx => wx.cell? ⟨lb, 0, none⟩ = some (.pointer (some ⟨b, 0, none⟩)) ∧ wx.cell? ⟨lb, 1, none⟩ = some (.int .i64 f)) (.rd 0 (.rd 1 (.rd 2 (.rd 3 (.rd 4 (.rd 5 (.rd 6 (.rd 7 (.rd 8 (.wr 9 (.rd 10 .done))))))))))) (by kernel_rfl) (by kernel_rfl) ⟨c0, c1⟩ ?_
      (repeat (refine Plan.tree_read (v := ?_) rfl rfl ?_ ?_; rotate_left; (focus ((intro wS hSw; (try dsimp only at hSw); go_simp); try with_reducible rfl)); simp only [Act.put, List.setIfInBounds_toArray, List.set_cons_zero, List.set_cons_succ]))
      (refine Plan.tree_write rfl (fun K hK => ?_); try go_simp)
      go_at_call 34
      refine (KZ.out _ (Below.refl _ _).drew).mono ?_
      rintro e _ ⟨rfl, rfl⟩
      (refine hK.out _ _ (⟨c0, c1⟩) ?_; clear hK K; try simp only [Act.put, List.setIfInBounds_toArray, List.set_cons_zero, List.set_cons_succ])
      (repeat (refine Plan.tree_read (v := ?_) rfl rfl ?_ ?_; rotate_left; (focus ((intro wS hSw; (try dsimp only at hSw); go_simp); try with_reducible rfl)); simp only [Act.put, List.setIfInBounds_toArray, List.set_cons_zero, List.set_cons_succ]))
      refine Plan.tree_done ?_
      clear KZ
      have X0 := X.below (Below.refl _ _).drew
      obtain ⟨x0, x1, x2, x3⟩ := rlogO_cells X0.L.obj
      unfold dp at x0
      clear c0 c1 c2 f2
      by_cases q2 : 0 < z
      case pos =>
        have q3 : decide (0 < z) = true := decide_eq_true q2
        obtain ⟨v1, s1, e1⟩ : ∃ v s', DK.cut s (f + 1) 0 = (v, s') := ⟨_, _, rfl⟩
        have hO2 : open2 s f = (v1, s1) := by unfold open2; rw [ez, if_pos q2]; exact e1
        have K1 := Lib.hid fun wx (hb : Below _ _ wx) => (X0.H.below_ hb).cut (f + 1) 0 (by omega) (v := v1) (s' := s1) (by rw [e1]) (by rw [e1])
        unfold dp at K1
        rw [hO2] at hv
        clear e1 ez hO2
        go_upto_region 8 with fail
        refine Plan.wp_region_treeS (fun wx => wx.cell? ⟨lb, 0, none⟩ = some (.pointer (some ⟨b, 0, none⟩)) ∧ wx.cell? ⟨lb, 1, none⟩ = some (.int .i64 f)) (.rd 0 (.rd 1 (.rd 2 (.rd 3 (.rd 4 (.rd 5 (.rd 6 (.rd 7 (.rd 8 (.wr 9 (.rd 10 .done))))))))))) (by kernel_rfl) (by kernel_rfl) ⟨x0, x1⟩ ?_
        (repeat (refine Plan.tree_read (v := ?_) rfl rfl ?_ ?_; rotate_left; (focus ((intro wS hSw; (try dsimp only at hSw); go_simp); try with_reducible rfl)); simp only [Act.put, List.setIfInBounds_toArray, List.set_cons_zero, List.set_cons_succ]))
        (refine Plan.tree_write rfl (fun K hK => ?_); try go_simp)
        go_at_call 75
        refine (K1.out _ (Below.refl _ _).drew).mono ?_
        rintro e w1 ⟨rfl, H_, k_⟩
        have X1 := (X0.below (Below.refl _ _).drew).step H_ k_
        clear H_ k_ K1
        obtain ⟨m0, m1, m2, m3⟩ := rlogO_cells X1.L.obj
        unfold dp at m0
        (refine hK.out _ _ (⟨m0, m1⟩) ?_; clear hK K; try simp only [Act.put, List.setIfInBounds_toArray, List.set_cons_zero, List.set_cons_succ])
        (repeat (refine Plan.tree_read (v := ?_) rfl rfl ?_ ?_; rotate_left; (focus ((intro wS hSw; (try dsimp only at hSw); go_simp); try with_reducible rfl)); simp only [Act.put, List.setIfInBounds_toArray, List.set_cons_zero, List.set_cons_succ]))
        refine Plan.tree_done ?_
        by_cases g : v1 = 0
        case neg =>
          rw [if_pos g] at hv
          have g2 : (v1 != 0) = true := by rw [bne_iff_ne]; exact g
          have g3 : (v1 == 0) = false := by rw [beq_eq_false_iff_ne]; exact g
          injection hv with e1 e2
          injection e2 with e2 e3
          subst e1; subst e2; subst e3
          go_wp2_with fail
          go_ret
          exact ⟨rfl, X1.err⟩
        subst g
        rw [if_neg (by simp)] at hv
        try dsimp only at hv
        have hA2 := Lib.hid (hA.keep (X1.kp.sub fun _ q => .inl q)).at_
        have KS := Lib.hid fun wx (hb : Below _ _ wx) => rrecords_any A c m wx (CellsAt.more (hA2.out.below hb) hb.size) hm hlen
        obtain ⟨v2, s2, e2⟩ : ∃ v s', DK.append s1 (f + 1) (recs m) = (v, s') := ⟨_, _, rfl⟩
        have K2 := Lib.hid fun wx (hb : Below _ _ wx) => (X1.H.below_ hb).append (f + 1) (recs m) (by omega) (by omega) (v := v2) (s' := s2) (by rw [e2]) (by rw [e2])
        unfold dp at K2
        rw [e2] at hv
        clear e2
        go_upto_region 10 with fail
        refine Plan.wp_region_treeS (fun wx => wx.cell? ⟨lb, 0, none⟩ = some (.pointer (some ⟨b, 0, none⟩)) ∧ wx.cell? ⟨lb, 1, none⟩ = some (.int .i64 f)) (.rd 0 (.rd 1 (.rd 2 (.rd 3 (.rd 4 (.rd 5 (.rd 6 (.rd 7 (.rd 8 (.rd 9 (.wr 10 (.wr 11 (.rd 12 .done))))))))))))) (by kernel_rfl) (by kernel_rfl) ⟨m0, m1⟩ ?_
        (repeat (refine Plan.tree_read (v := ?_) rfl rfl ?_ ?_; rotate_left; (focus ((intro wS hSw; (try dsimp only at hSw); go_simp); try with_reducible rfl)); simp only [Act.put, List.setIfInBounds_toArray, List.set_cons_zero, List.set_cons_succ]))
        (refine Plan.tree_write rfl (fun K hK => ?_); try go_simp)
        go_at_call 79
        refine (KS.out _ (Below.refl _ _).drew).mono ?_
        rintro e wa ⟨rfl, hba⟩
        have hba2 := (Below.refl _ _).drew.trans hba
        have Xa := X1.below hba2
        obtain ⟨n0, n1, n2, n3⟩ := rlogO_cells Xa.L.obj
        unfold dp at n0
        (refine hK.out _ _ (⟨n0, n1⟩) ?_; clear hK K; try simp only [Act.put, List.setIfInBounds_toArray, List.set_cons_zero, List.set_cons_succ])
        (repeat (refine Plan.tree_read (v := ?_) rfl rfl ?_ ?_; rotate_left; (focus ((intro wS hSw; (try dsimp only at hSw); go_simp); try with_reducible rfl)); simp only [Act.put, List.setIfInBounds_toArray, List.set_cons_zero, List.set_cons_succ]))
        (refine Plan.tree_write rfl (fun K hK => ?_); try go_simp)
        go_at_call 28
        refine (K2.out _ hba2).mono ?_
        rintro e w2 ⟨rfl, H_, k_⟩
        have X2 := Xa.step H_ k_
        clear H_ k_ K2 KS hA2 Xa
        obtain ⟨o0, o1, o2, o3⟩ := rlogO_cells X2.L.obj
        unfold dp at o0
        (refine hK.out _ _ (⟨o0, o1⟩) ?_; clear hK K; try simp only [Act.put, List.setIfInBounds_toArray, List.set_cons_zero, List.set_cons_succ])
        (repeat (refine Plan.tree_read (v := ?_) rfl rfl ?_ ?_; rotate_left; (focus ((intro wS hSw; (try dsimp only at hSw); go_simp); try with_reducible rfl)); simp only [Act.put, List.setIfInBounds_toArray, List.set_cons_zero, List.set_cons_succ]))
        refine Plan.tree_done ?_
        by_cases g : v2 = 0
        case neg =>
          rw [if_pos g] at hv
          have g2 : (v2 != 0) = true := by rw [bne_iff_ne]; exact g
          have g3 : (v2 == 0) = false := by rw [beq_eq_false_iff_ne]; exact g
          injection hv with e1 e2
          injection e2 with e2 e3
          subst e1; subst e2; subst e3
          go_wp2_with fail
          go_ret
          exact ⟨rfl, X2.err1⟩
        subst g
        rw [if_neg (by simp)] at hv
        try dsimp only at hv
        obtain ⟨v3, s3, e3⟩ : ∃ v s', DK.flush s2 (f + 1) = (v, s') := ⟨_, _, rfl⟩
        have K3 := Lib.hid fun wx (hb : Below _ _ wx) => (X2.H.below_ hb).flush (f + 1) (by omega) (v := v3) (s' := s3) (by rw [e3]) (by rw [e3])
        unfold dp at K3
        rw [e3] at hv
        clear e3
        go_upto_region 12 with fail
        refine Plan.wp_region_treeS (fun wx => wx.cell? ⟨lb, 0, none⟩ = some (.pointer (some ⟨b, 0, none⟩)) ∧ wx.cell? ⟨lb, 1, none⟩ = some (.int .i64 f)) (.rd 0 (.rd 1 (.rd 2 (.rd 3 (.rd 4 (.rd 5 (.rd 6 (.rd 7 (.rd 8 (.wr 9 (.rd 10 .done))))))))))) (by kernel_rfl) (by kernel_rfl) ⟨o0, o1⟩ ?_
        (repeat (refine Plan.tree_read (v := ?_) rfl rfl ?_ ?_; rotate_left; (focus ((intro wS hSw; (try dsimp only at hSw); go_simp); try with_reducible rfl)); simp only [Act.put, List.setIfInBounds_toArray, List.set_cons_zero, List.set_cons_succ]))
        (refine Plan.tree_write rfl (fun K hK => ?_); try go_simp)
        go_at_call 76
        refine (K3.out _ (Below.refl _ _).drew).mono ?_
        rintro e w3 ⟨rfl, H_, k_⟩
        have X3 := (X2.below (Below.refl _ _).drew).step H_ k_
        clear H_ k_ K3
        obtain ⟨p0, p1, p2, p3⟩ := rlogO_cells X3.L.obj
        unfold dp at p0
        (refine hK.out _ _ (⟨p0, p1⟩) ?_; clear hK K; try simp only [Act.put, List.setIfInBounds_toArray, List.set_cons_zero, List.set_cons_succ])
        (repeat (refine Plan.tree_read (v := ?_) rfl rfl ?_ ?_; rotate_left; (focus ((intro wS hSw; (try dsimp only at hSw); go_simp); try with_reducible rfl)); simp only [Act.put, List.setIfInBounds_toArray, List.set_cons_zero, List.set_cons_succ]))
        refine Plan.tree_done ?_
        by_cases g : v3 = 0
        case neg =>
          rw [if_pos g] at hv
          have g2 : (v3 != 0) = true := by rw [bne_iff_ne]; exact g
          have g3 : (v3 == 0) = false := by rw [beq_eq_false_iff_ne]; exact g
          injection hv with e1 e2
          injection e2 with e2 e3
          subst e1; subst e2; subst e3
          go_wp2_with fail
          go_ret
          exact ⟨rfl, X3.err1⟩
        subst g
        rw [if_neg (by simp)] at hv
        try dsimp only at hv
        obtain ⟨v4, s4, e4⟩ : ∃ v s', DK.turn s3 f (f + 1) = (v, s') := ⟨_, _, rfl⟩
        have K4 := Lib.hid fun wx (hb : Below _ _ wx) => (X3.H.below_ hb).turn f (f + 1) (by omega) (v := v4) (s' := s4) (by rw [e4]) (by rw [e4])
        unfold dp at K4
        rw [e4] at hv
        clear e4
        go_upto_region 14 with fail
        refine Plan.wp_region_treeS (fun wx => wx.cell? ⟨lb, 0, none⟩ = some (.pointer (some ⟨b, 0, none⟩)) ∧ wx.cell? ⟨lb, 1, none⟩ = some (.int .i64 f)) (.rd 0 (.rd 1 (.rd 2 (.rd 3 (.rd 4 (.rd 5 (.rd 6 (.rd 7 (.rd 8 (.rd 9 (.rd 10 (.rd 11 (.rd 12 (.wr 13 (.rd 14 .done))))))))))))))) (by kernel_rfl) (by kernel_rfl) ⟨p0, p1⟩ ?_
        (repeat (refine Plan.tree_read (v := ?_) rfl rfl ?_ ?_; rotate_left; (focus ((intro wS hSw; (try dsimp only at hSw); go_simp); try with_reducible rfl)); simp only [Act.put, List.setIfInBounds_toArray, List.set_cons_zero, List.set_cons_succ]))
        (refine Plan.tree_write rfl (fun K hK => ?_); try go_simp)
        go_at_call 80
        refine (K4.out _ (Below.refl _ _).drew).mono ?_
        rintro e w4 ⟨rfl, H_, k_⟩
        have X4 := (X3.below (Below.refl _ _).drew).step H_ k_
        clear H_ k_ K4
        obtain ⟨q0, q1, q2, q3⟩ := rlogO_cells X4.L.obj
        unfold dp at q0
        (refine hK.out _ _ (⟨q0, q1⟩) ?_; clear hK K; try simp only [Act.put, List.setIfInBounds_toArray, List.set_cons_zero, List.set_cons_succ])
        (repeat (refine Plan.tree_read (v := ?_) rfl rfl ?_ ?_; rotate_left; (focus ((intro wS hSw; (try dsimp only at hSw); go_simp); try with_reducible rfl)); simp only [Act.put, List.setIfInBounds_toArray, List.set_cons_zero, List.set_cons_succ]))
        refine Plan.tree_done ?_
        by_cases g : v4 = 0
        case neg =>
          rw [if_pos g] at hv
          have g2 : (v4 != 0) = true := by rw [bne_iff_ne]; exact g
          have g3 : (v4 == 0) = false := by rw [beq_eq_false_iff_ne]; exact g
          injection hv with e1 e2
          injection e2 with e2 e3
          subst e1; subst e2; subst e3
          go_wp2_with fail
          go_ret
          exact ⟨rfl, X4.err1⟩
        subst g
        rw [if_neg (by simp)] at hv
        try dsimp only at hv
        injection hv with e1 e2
        injection e2 with e2 e3
        subst e1; subst e2; subst e3
        have hr := Lib.hid (reads_strs (hA.keep (X4.kp.sub fun _ q => .inl q)).at_)
        have hO0 := Lib.hid (World.ownsRow_made (e := 9) (size := 1) w4 #[] 0 (Nat.le_refl _) (Nat.zero_le _) rfl)
        have hlb4 := X4.L.lt
        have X5 := Lib.hid fun (w5 : World) (o5 : Option Nat) (c9 : Nat) (hB : Below w4.heap.size w4 w5) hO => X4.put (m := m) (o5 := o5) (c9 := c9) hB hO
        obtain ⟨nm, hnm⟩ : ∃ nm, m.length = nm := ⟨_, rfl⟩
        rw [hnm] at hr X5 hml ⊢
        go_wp2_with (first | (at_builtin; refine wpList_append_any _ (by rfl) _ _ 22 (by rfl) w4.heap.size 9 i0 _ 1 16 Try.underlying22 hi hz0 hz1 hz2 rfl (by decide) _ 0 [] (by rfl) hO0.out _ A nm c _ (by rfl) (hr.out.alloc (Nat.le_refl _) _) (fun u hu => by obtain ⟨x, _, rfl⟩ := List.mem_map.1 hu; rfl) (by unfold maxLen; omega) (by omega) (by simp) ?_; intro v' w5 hO3 hG3 hob3; obtain ⟨o3, cc3, hv3, _⟩ := ad_of_owns hO3; subst hv3; have hB3 := Lib.hid ((below_new w4 (.cells #[] 9)).trans (below_own hO0.out (by simp) hG3)); rw [Nat.zero_add, List.nil_append] at hO3; replace hO3 := Lib.hid hO3; clear hG3 hob3; have y0 := (hB3.out.cell (p := ⟨lb, 2, none⟩) hlb4).trans q2; have y1 := (hB3.out.frozen (p := ⟨lb, 2, none⟩) hlb4).trans q3) | fail)
        go_ret
        exact ⟨rfl, X5.out _ _ _ hB3.out hO3.out⟩
      case neg =>
        have q3 : decide (0 < z) = false := decide_eq_false q2
        have hO2 : open2 s f = (0, s) := by unfold open2; rw [ez, if_neg q2]
        rw [hO2, if_neg (by simp)] at hv
        try dsimp only at hv
        clear ez hO2
        have hA2 := Lib.hid (hA.keep (X0.kp.sub fun _ q => .inl q)).at_
        have KS := Lib.hid fun wx (hb : Below _ _ wx) => rrecords_any A c m wx (CellsAt.more (hA2.out.below hb) hb.size) hm hlen
        obtain ⟨v2, s2, e2⟩ : ∃ v s', DK.append s (f + 1) (recs m) = (v, s') := ⟨_, _, rfl⟩
        have K2 := Lib.hid fun wx (hb : Below _ _ wx) => (X0.H.below_ hb).append (f + 1) (recs m) (by omega) (by omega) (v := v2) (s' := s2) (by rw [e2]) (by rw [e2])
        unfold dp at K2
        rw [e2] at hv
        clear e2
        go_upto_region 10 with fail
        refine Plan.wp_region_treeS (fun wx => wx.cell? ⟨lb, 0, none⟩ = some (.pointer (some ⟨b, 0, none⟩)) ∧ wx.cell? ⟨lb, 1, none⟩ = some (.int .i64 f)) (.rd 0 (.rd 1 (.rd 2 (.rd 3 (.rd 4 (.rd 5 (.rd 6 (.rd 7 (.rd 8 (.rd 9 (.wr 10 (.wr 11 (.rd 12 .done))))))))))))) (by kernel_rfl) (by kernel_rfl) ⟨x0, x1⟩ ?_
        (repeat (refine Plan.tree_read (v := ?_) rfl rfl ?_ ?_; rotate_left; (focus ((intro wS hSw; (try dsimp only at hSw); go_simp); try with_reducible rfl)); simp only [Act.put, List.setIfInBounds_toArray, List.set_cons_zero, List.set_cons_succ]))
        (refine Plan.tree_write rfl (fun K hK => ?_); try go_simp)
        go_at_call 79
        refine (KS.out _ (Below.refl _ _).drew).mono ?_
        rintro e wa ⟨rfl, hba⟩
        have hba2 := (Below.refl _ _).drew.trans hba
        have Xa := X0.below hba2
        obtain ⟨n0, n1, n2, n3⟩ := rlogO_cells Xa.L.obj
        unfold dp at n0
        (refine hK.out _ _ (⟨n0, n1⟩) ?_; clear hK K; try simp only [Act.put, List.setIfInBounds_toArray, List.set_cons_zero, List.set_cons_succ])
        (repeat (refine Plan.tree_read (v := ?_) rfl rfl ?_ ?_; rotate_left; (focus ((intro wS hSw; (try dsimp only at hSw); go_simp); try with_reducible rfl)); simp only [Act.put, List.setIfInBounds_toArray, List.set_cons_zero, List.set_cons_succ]))
        (refine Plan.tree_write rfl (fun K hK => ?_); try go_simp)
        go_at_call 28
        refine (K2.out _ hba2).mono ?_
        rintro e w2 ⟨rfl, H_, k_⟩
        have X2 := Xa.step H_ k_
        clear H_ k_ K2 KS hA2 Xa
        obtain ⟨o0, o1, o2, o3⟩ := rlogO_cells X2.L.obj
        unfold dp at o0
        (refine hK.out _ _ (⟨o0, o1⟩) ?_; clear hK K; try simp only [Act.put, List.setIfInBounds_toArray, List.set_cons_zero, List.set_cons_succ])
        (repeat (refine Plan.tree_read (v := ?_) rfl rfl ?_ ?_; rotate_left; (focus ((intro wS hSw; (try dsimp only at hSw); go_simp); try with_reducible rfl)); simp only [Act.put, List.setIfInBounds_toArray, List.set_cons_zero, List.set_cons_succ]))
        refine Plan.tree_done ?_
        by_cases g : v2 = 0
        case neg =>
          rw [if_pos g] at hv
          have g2 : (v2 != 0) = true := by rw [bne_iff_ne]; exact g
          have g3 : (v2 == 0) = false := by rw [beq_eq_false_iff_ne]; exact g
          injection hv with e1 e2
          injection e2 with e2 e3
          subst e1; subst e2; subst e3
          go_wp2_with fail
          go_ret
          exact ⟨rfl, X2.err1⟩
        subst g
        rw [if_neg (by simp)] at hv
        try dsimp only at hv
        obtain ⟨v3, s3, e3⟩ : ∃ v s', DK.flush s2 (f + 1) = (v, s') := ⟨_, _, rfl⟩
        have K3 := Lib.hid fun wx (hb : Below _ _ wx) => (X2.H.below_ hb).flush (f + 1) (by omega) (v := v3) (s' := s3) (by rw [e3]) (by rw [e3])
        unfold dp at K3
        rw [e3] at hv
        clear e3
        go_upto_region 12 with fail
        refine Plan.wp_region_treeS (fun wx => wx.cell? ⟨lb, 0, none⟩ = some (.pointer (some ⟨b, 0, none⟩)) ∧ wx.cell? ⟨lb, 1, none⟩ = some (.int .i64 f)) (.rd 0 (.rd 1 (.rd 2 (.rd 3 (.rd 4 (.rd 5 (.rd 6 (.rd 7 (.rd 8 (.wr 9 (.rd 10 .done))))))))))) (by kernel_rfl) (by kernel_rfl) ⟨o0, o1⟩ ?_
        (repeat (refine Plan.tree_read (v := ?_) rfl rfl ?_ ?_; rotate_left; (focus ((intro wS hSw; (try dsimp only at hSw); go_simp); try with_reducible rfl)); simp only [Act.put, List.setIfInBounds_toArray, List.set_cons_zero, List.set_cons_succ]))
        (refine Plan.tree_write rfl (fun K hK => ?_); try go_simp)
        go_at_call 76
        refine (K3.out _ (Below.refl _ _).drew).mono ?_
        rintro e w3 ⟨rfl, H_, k_⟩
        have X3 := (X2.below (Below.refl _ _).drew).step H_ k_
        clear H_ k_ K3
        obtain ⟨p0, p1, p2, p3⟩ := rlogO_cells X3.L.obj
        unfold dp at p0
        (refine hK.out _ _ (⟨p0, p1⟩) ?_; clear hK K; try simp only [Act.put, List.setIfInBounds_toArray, List.set_cons_zero, List.set_cons_succ])
        (repeat (refine Plan.tree_read (v := ?_) rfl rfl ?_ ?_; rotate_left; (focus ((intro wS hSw; (try dsimp only at hSw); go_simp); try with_reducible rfl)); simp only [Act.put, List.setIfInBounds_toArray, List.set_cons_zero, List.set_cons_succ]))
        refine Plan.tree_done ?_
        by_cases g : v3 = 0
        case neg =>
          rw [if_pos g] at hv
          have g2 : (v3 != 0) = true := by rw [bne_iff_ne]; exact g
          have g3 : (v3 == 0) = false := by rw [beq_eq_false_iff_ne]; exact g
          injection hv with e1 e2
          injection e2 with e2 e3
          subst e1; subst e2; subst e3
          go_wp2_with fail
          go_ret
          exact ⟨rfl, X3.err1⟩
        subst g
        rw [if_neg (by simp)] at hv
        try dsimp only at hv
        obtain ⟨v4, s4, e4⟩ : ∃ v s', DK.turn s3 f (f + 1) = (v, s') := ⟨_, _, rfl⟩
        have K4 := Lib.hid fun wx (hb : Below _ _ wx) => (X3.H.below_ hb).turn f (f + 1) (by omega) (v := v4) (s' := s4) (by rw [e4]) (by rw [e4])
        unfold dp at K4
        rw [e4] at hv
        clear e4
        go_upto_region 14 with fail
        refine Plan.wp_region_treeS (fun wx => wx.cell? ⟨lb, 0, none⟩ = some (.pointer (some ⟨b, 0, none⟩)) ∧ wx.cell? ⟨lb, 1, none⟩ = some (.int .i64 f)) (.rd 0 (.rd 1 (.rd 2 (.rd 3 (.rd 4 (.rd 5 (.rd 6 (.rd 7 (.rd 8 (.rd 9 (.rd 10 (.rd 11 (.rd 12 (.wr 13 (.rd 14 .done))))))))))))))) (by kernel_rfl) (by kernel_rfl) ⟨p0, p1⟩ ?_
        (repeat (refine Plan.tree_read (v := ?_) rfl rfl ?_ ?_; rotate_left; (focus ((intro wS hSw; (try dsimp only at hSw); go_simp); try with_reducible rfl)); simp only [Act.put, List.setIfInBounds_toArray, List.set_cons_zero, List.set_cons_succ]))
        (refine Plan.tree_write rfl (fun K hK => ?_); try go_simp)
        go_at_call 80
        refine (K4.out _ (Below.refl _ _).drew).mono ?_
        rintro e w4 ⟨rfl, H_, k_⟩
        have X4 := (X3.below (Below.refl _ _).drew).step H_ k_
        clear H_ k_ K4
        obtain ⟨q0, q1, q2, q3⟩ := rlogO_cells X4.L.obj
        unfold dp at q0
        (refine hK.out _ _ (⟨q0, q1⟩) ?_; clear hK K; try simp only [Act.put, List.setIfInBounds_toArray, List.set_cons_zero, List.set_cons_succ])
        (repeat (refine Plan.tree_read (v := ?_) rfl rfl ?_ ?_; rotate_left; (focus ((intro wS hSw; (try dsimp only at hSw); go_simp); try with_reducible rfl)); simp only [Act.put, List.setIfInBounds_toArray, List.set_cons_zero, List.set_cons_succ]))
        refine Plan.tree_done ?_
        by_cases g : v4 = 0
        case neg =>
          rw [if_pos g] at hv
          have g2 : (v4 != 0) = true := by rw [bne_iff_ne]; exact g
          have g3 : (v4 == 0) = false := by rw [beq_eq_false_iff_ne]; exact g
          injection hv with e1 e2
          injection e2 with e2 e3
          subst e1; subst e2; subst e3
          go_wp2_with fail
          go_ret
          exact ⟨rfl, X4.err1⟩
        subst g
        rw [if_neg (by simp)] at hv
        try dsimp only at hv
        injection hv with e1 e2
        injection e2 with e2 e3
        subst e1; subst e2; subst e3
        have hr := Lib.hid (reads_strs (hA.keep (X4.kp.sub fun _ q => .inl q)).at_)
        have hO0 := Lib.hid (World.ownsRow_made (e := 9) (size := 1) w4 #[] 0 (Nat.le_refl _) (Nat.zero_le _) rfl)
        have hlb4 := X4.L.lt
        have X5 := Lib.hid fun (w5 : World) (o5 : Option Nat) (c9 : Nat) (hB : Below w4.heap.size w4 w5) hO => X4.put (m := m) (o5 := o5) (c9 := c9) hB hO
        obtain ⟨nm, hnm⟩ : ∃ nm, m.length = nm := ⟨_, rfl⟩
        rw [hnm] at hr X5 hml ⊢
        go_wp2_with (first | (at_builtin; refine wpList_append_any _ (by rfl) _ _ 22 (by rfl) w4.heap.size 9 i0 _ 1 16 Try.underlying22 hi hz0 hz1 hz2 rfl (by decide) _ 0 [] (by rfl) hO0.out _ A nm c _ (by rfl) (hr.out.alloc (Nat.le_refl _) _) (fun u hu => by obtain ⟨x, _, rfl⟩ := List.mem_map.1 hu; rfl) (by unfold maxLen; omega) (by omega) (by simp) ?_; intro v' w5 hO3 hG3 hob3; obtain ⟨o3, cc3, hv3, _⟩ := ad_of_owns hO3; subst hv3; have hB3 := Lib.hid ((below_new w4 (.cells #[] 9)).trans (below_own hO0.out (by simp) hG3)); rw [Nat.zero_add, List.nil_append] at hO3; replace hO3 := Lib.hid hO3; clear hG3 hob3; have y0 := (hB3.out.cell (p := ⟨lb, 2, none⟩) hlb4).trans q2; have y1 := (hB3.out.frozen (p := ⟨lb, 2, none⟩) hlb4).trans q3) | fail)
        go_ret
        exact ⟨rfl, X5.out _ _ _ hB3.out hO3.out⟩
end
end Go.Proofs.Ytmnimcdbfolhaaa

/- Two sides of the heap (a disk with its log, the reference's disk with its log), which turn one beside the other; blocks of others. -/
namespace Go.Proofs.Ytmnimcdbfolhaaa
open Go.RowKit DK
abbrev Side := (Nat → Prop) → World → Prop
/-- What holds beside blocks that may turn. -/
structure Mov (w0 : World) (X : Side) : Prop where
  turn : ∀ {P Q : Nat → Prop} {w w' : World}, X P w → w'.os = w.os → w'.tape = w.tape → w'.output = w.output → w.heap.size ≤ w'.heap.size → (∀ k, k < w.heap.size → ¬ P k ∨ k < w0.heap.size → w'.heap[k]? = w.heap[k]?) → (∀ k, Q k → (P k ∨ w.heap.size ≤ k) ∧ k < w'.heap.size) → X Q w'
  below : ∀ {P : Nat → Prop} {w : World}, X P w → Below w0.heap.size w0 w
def HX (w0 : World) (b n : Nat) (s : St) : Side := fun P w => HasP w0 b P n w s
def RX (w0 : World) (b n : Nat) (s : St) : Side := fun P w => RHas w0 b P n w s
def WX (w0 : World) (b lb : Nat) (f : Int) (n : Nat) (s : St) (R : List Bts) : Side := fun P w => Wal w0 b lb f P n w s R
def VX (w0 : World) (b lb : Nat) (f : Int) (n : Nat) (s : St) (R : List Bts) : Side := fun P w => RWal w0 b lb f P n w s R
section
variable {w0 w w' : World} {b lb n : Nat} {f : Int} {s : St} {R : List Bts} {O O' : Nat → Prop} {X Y X' Y' : Side}
theorem mov_h : Mov w0 (HX w0 b n s) := ⟨fun h h1 h2 h3 h4 h5 h6 => HasP.turn_ h h1 h2 h3 h4 h5 h6, fun h => HasP.below h⟩
theorem mov_r : Mov w0 (RX w0 b n s) := ⟨fun h h1 h2 h3 h4 h5 h6 => RHas.turn_ h h1 h2 h3 h4 h5 h6, fun h => RHas.below h⟩
theorem mov_w : Mov w0 (WX w0 b lb f n s R) := ⟨fun h h1 h2 h3 h4 h5 h6 => Wal.turn_ h h1 h2 h3 h4 h5 h6, fun h => Wal.below h⟩
theorem mov_v : Mov w0 (VX w0 b lb f n s R) := ⟨fun h h1 h2 h3 h4 h5 h6 => RWal.turn_ h h1 h2 h3 h4 h5 h6, fun h => RWal.below h⟩
structure Sep (w0 : World) (O : Nat → Prop) (X Y : Side) (w : World) : Prop where
  sep : ∃ D : Nat → Prop, (∀ k, D k → w0.heap.size ≤ k ∧ k < w.heap.size ∧ ¬ O k) ∧ X (fun k => k < w.heap.size ∧ ¬ D k) w ∧ Y (fun k => D k ∨ O k ∨ k < w0.heap.size) w
  ol : ∀ k, O k → w0.heap.size ≤ k ∧ k < w.heap.size
theorem Sep.mono (h : Sep w0 O X Y w) (hX : ∀ P w, X P w → X' P w) (hY : ∀ P w, Y P w → Y' P w) : Sep w0 O X' Y' w := by
  obtain ⟨D, h1, h2, h3⟩ := h.sep
  exact ⟨⟨D, h1, hX _ _ h2, hY _ _ h3⟩, h.ol⟩
theorem Sep.below (h : Sep w0 O X Y w) (mX : Mov w0 X) : Below w0.heap.size w0 w := by
  obtain ⟨D, h1, h2, h3⟩ := h.sep
  exact mX.below h2
theorem same_of {w0 w w' : World} (h : Below w0.heap.size w0 w) (h' : Below w0.heap.size w0 w') : w'.os = w.os ∧ w'.tape = w.tape ∧ w'.output = w.output :=
  ⟨h'.os.trans h.os.symm, h'.tape.trans h.tape.symm, h'.output.trans h.output.symm⟩
/-- The first side takes a step. -/
theorem Sep.first (h : Sep w0 O X Y w) (mY : Mov w0 Y) : ∃ P : Nat → Prop, X P w ∧ (∀ k, O k → P k) ∧ (∀ k, k < w0.heap.size → P k) ∧ ∀ {X' : Side} {w' : World}, X' P w' → Keep P w w' → Below w0.heap.size w0 w' → Sep w0 O X' Y w' := by
  obtain ⟨D, h1, h2, h3⟩ := h.sep
  have hb := mY.below h3
  have hz := hb.size
  refine ⟨_, h2, fun k q => ⟨(h.ol k q).2, fun d => (h1 k d).2.2 q⟩, fun k q => ⟨by omega, fun d => by have := (h1 k d).1; omega⟩, fun {X'} {w'} x' k' hb' => ?_⟩
  have hk := k'.size
  obtain ⟨e1, e2, e3⟩ := same_of hb hb'
  refine ⟨⟨fun k => D k ∨ (w.heap.size ≤ k ∧ k < w'.heap.size), fun k q => ?_, ?_, ?_⟩, fun k q => ⟨(h.ol k q).1, Nat.lt_of_lt_of_le (h.ol k q).2 hk⟩⟩
  · rcases q with q | q
    · exact ⟨(h1 k q).1, Nat.lt_of_lt_of_le (h1 k q).2.1 hk, (h1 k q).2.2⟩
    · exact ⟨by omega, q.2, fun o => by have := (h.ol k o).2; omega⟩
  · have : (fun k => k < w'.heap.size ∧ ¬ (D k ∨ (w.heap.size ≤ k ∧ k < w'.heap.size))) = fun k => k < w.heap.size ∧ ¬ D k := by
      funext k
      refine propext ⟨fun q => ⟨?_, fun d => q.2 (.inl d)⟩, fun q => ⟨by omega, fun d => ?_⟩⟩
      · rcases Nat.lt_or_ge k w.heap.size with r | r
        · exact r
        · exact absurd (.inr ⟨r, q.1⟩) q.2
      · rcases d with d | d
        · exact q.2 d
        · omega
    rw [this]; exact x'
  · refine mY.turn h3 e1 e2 e3 hk (fun k hlt q => k'.block k hlt ⟨hlt, fun d => ?_⟩) fun k q => ?_
    · rcases q with q | q
      · exact q (.inl d)
      · have := (h1 k d).1; omega
    · rcases q with (q | q) | q | q
      · exact ⟨.inl (.inl q), Nat.lt_of_lt_of_le (h1 k q).2.1 hk⟩
      · exact ⟨.inr q.1, q.2⟩
      · exact ⟨.inl (.inr (.inl q)), Nat.lt_of_lt_of_le (h.ol k q).2 hk⟩
      · exact ⟨.inl (.inr (.inr q)), by omega⟩
/-- The second side takes a step. -/
theorem Sep.second (h : Sep w0 O X Y w) (mX : Mov w0 X) : ∃ P : Nat → Prop, Y P w ∧ (∀ k, O k → P k) ∧ (∀ k, k < w0.heap.size → P k) ∧ ∀ {Y' : Side} {w' : World}, Y' P w' → Keep P w w' → Below w0.heap.size w0 w' → Sep w0 O X Y' w' := by
  obtain ⟨D, h1, h2, h3⟩ := h.sep
  have hb := mX.below h2
  have hz := hb.size
  refine ⟨_, h3, fun k q => .inr (.inl q), fun k q => .inr (.inr q), fun {Y'} {w'} y' k' hb' => ?_⟩
  have hk := k'.size
  obtain ⟨e1, e2, e3⟩ := same_of hb hb'
  refine ⟨⟨D, fun k q => ⟨(h1 k q).1, Nat.lt_of_lt_of_le (h1 k q).2.1 hk, (h1 k q).2.2⟩, ?_, y'⟩, fun k q => ⟨(h.ol k q).1, Nat.lt_of_lt_of_le (h.ol k q).2 hk⟩⟩
  refine mX.turn h2 e1 e2 e3 hk (fun k hlt q => ?_) fun k q => ⟨?_, q.1⟩
  · rcases q with q | q
    · rcases Classical.em (D k) with d | d
      · exact k'.block k hlt (.inl d)
      · exact absurd ⟨hlt, d⟩ q
    · exact k'.block k hlt (.inr (.inr q))
  · rcases Nat.lt_or_ge k w.heap.size with r | r
    · exact .inl ⟨r, q.2⟩
    · exact .inr r
/-- Blocks of others turn, or new ones are laid. -/
theorem Sep.step (h : Sep w0 O X Y w) (mX : Mov w0 X) (mY : Mov w0 Y) (h1 : w'.os = w.os) (h2 : w'.tape = w.tape) (h3 : w'.output = w.output) (hz : w.heap.size ≤ w'.heap.size) (hk : ∀ k, k < w.heap.size → ¬ O k → w'.heap[k]? = w.heap[k]?) (hO : ∀ k, O' k → (O k ∨ w.heap.size ≤ k) ∧ k < w'.heap.size) : Sep w0 O' X Y w' := by
  obtain ⟨D, d1, d2, d3⟩ := h.sep
  have hb := (mX.below d2).size
  refine ⟨⟨D, fun k q => ⟨(d1 k q).1, Nat.lt_of_lt_of_le (d1 k q).2.1 hz, fun o => ?_⟩, mX.turn d2 h1 h2 h3 hz (fun k hlt q => hk k hlt fun o => ?_) fun k q => ⟨?_, q.1⟩, mY.turn d3 h1 h2 h3 hz (fun k hlt q => hk k hlt fun o => ?_) fun k q => ?_⟩, fun k q => ⟨?_, (hO k q).2⟩⟩
  · rcases (hO k o).1 with r | r
    · exact (d1 k q).2.2 r
    · have := (d1 k q).2.1; omega
  · rcases q with q | q
    · exact q ⟨hlt, fun d => (d1 k d).2.2 o⟩
    · have := (h.ol k o).1; omega
  · rcases Nat.lt_or_ge k w.heap.size with r | r
    · exact .inl ⟨r, q.2⟩
    · exact .inr r
  · rcases q with q | q
    · exact q (.inr (.inl o))
    · have := (h.ol k o).1; omega
  · rcases q with q | q | q
    · exact ⟨.inl (.inl q), Nat.lt_of_lt_of_le (d1 k q).2.1 hz⟩
    · exact ⟨(hO k q).1.imp (fun r => .inr (.inl r)) id, (hO k q).2⟩
    · exact ⟨.inl (.inr (.inr q)), by omega⟩
  · rcases (hO k q).1 with r | r
    · exact (h.ol k r).1
    · omega
theorem Sep.below_ (h : Sep w0 O X Y w) (mX : Mov w0 X) (mY : Mov w0 Y) (hb : Below w.heap.size w w') : Sep w0 O X Y w' :=
  h.step mX mY hb.os hb.tape hb.output hb.size (fun k hk _ => hb.block k hk) fun k q => ⟨.inl q, Nat.lt_of_lt_of_le (h.ol k q).2 hb.size⟩
theorem Sep.set_ (h : Sep w0 O X Y w) (mX : Mov w0 X) (mY : Mov w0 Y) {p : Nat} (hp : O p) (i : Nat) (v : Value) : Sep w0 O X Y (w.setCell ⟨p, i, none⟩ v) :=
  h.step mX mY rfl rfl rfl (by simp) (fun k _ o => Below.heap_setCell _ _ _ _ fun e => o (e ▸ hp)) fun k q => ⟨.inl q, by have := (h.ol k q).2; simpa using this⟩
theorem Sep.less (h : Sep w0 O X Y w) (mX : Mov w0 X) (mY : Mov w0 Y) (hO : ∀ k, O' k → O k) : Sep w0 O' X Y w :=
  h.step mX mY rfl rfl rfl (Nat.le_refl _) (fun _ _ _ => rfl) fun k q => ⟨.inl (hO k q), (h.ol k (hO k q)).2⟩
theorem Sep.laid (h : Sep w0 O X Y w) (mX : Mov w0 X) (mY : Mov w0 Y) (o : Obj) : Sep w0 (fun k => O k ∨ k = w.heap.size) X Y (w.alloc o) :=
  h.step mX mY rfl rfl rfl (by simp) (fun k hk _ => Below.heap_alloc _ _ _ hk) fun k q => by
    rcases q with q | q
    · exact ⟨.inl q, by have := (h.ol k q).2; simp; omega⟩
    · exact ⟨.inr (by omega), by simp; omega⟩
end
/-- A disk made, then the other one, then the pair's box. -/
theorem Sep.make {w0 w1 w2 w3 : World} {b rb : Nat} (o : Obj) (h1 : w0.heap.size ≤ w1.heap.size) (H : HasP w0 b (fun k => k < w1.heap.size) 0 w2 St.zero) (hb2 : Below w1.heap.size w1 w2) (H2 : RHas w0 rb (fun k => k < w2.heap.size) 0 w3 St.zero) (hb3 : Below w2.heap.size w2 w3) :
    Sep w0 (fun k => k = w3.heap.size) (HX w0 b 0 St.zero) (RX w0 rb 0 St.zero) (w3.alloc o) := by
  have z2 := hb2.size
  have z3 := hb3.size
  have hb4 := below_new w3 o
  have hb5 := hb3.trans (hb4.mono z3)
  have z5 := hb5.size
  have z4 : (w3.alloc o).heap.size = w3.heap.size + 1 := by simp
  refine ⟨⟨fun k => w1.heap.size ≤ k ∧ k < w2.heap.size, fun k q => ⟨by omega, by omega, by omega⟩, HasP.turn_ H hb5.os hb5.tape hb5.output hb5.size (fun k hk _ => hb5.block k hk) fun k q => ?_, RHas.turn_ H2 hb4.os hb4.tape hb4.output hb4.size (fun k hk _ => hb4.block k hk) fun k q => ?_⟩, fun k q => ⟨by omega, by omega⟩⟩
  · obtain ⟨q1, q2⟩ := q
    refine ⟨?_, q1⟩
    rcases Nat.lt_or_ge k w1.heap.size with r | r
    · exact .inl r
    · rcases Nat.lt_or_ge k w2.heap.size with r2 | r2
      · exact absurd ⟨r, r2⟩ q2
      · exact .inr r2
  · rcases q with q | q | q
    · exact ⟨.inl q.2, by omega⟩
    · exact ⟨.inr (by omega), by omega⟩
    · exact ⟨.inl (by show k < w2.heap.size; omega), by omega⟩
end Go.Proofs.Ytmnimcdbfolhaaa

/- The pair of a log and its twin: open. -/
namespace Go.Proofs.Ytmnimcdbfolhaaa
open Go.RowKit DK
attribute [local go_sem] alloc_drewN setCell_drewN shape_drewN
def pp (p : Nat) : Value := .pointer (some ⟨p, 0, none⟩)
def pairO (b : Nat) (l : Value) (rb : Nat) (t : Value) : Obj := .cells #[dp b, l, dp rb, t] 55 (0, 0)
theorem pair_cells {w : World} {p b rb : Nat} {l t : Value} (h : w.heap[p]? = some (pairO b l rb t)) : w.cell? ⟨p, 0, none⟩ = some (dp b) ∧ w.cell? ⟨p, 1, none⟩ = some l ∧ w.cell? ⟨p, 2, none⟩ = some (dp rb) ∧ w.cell? ⟨p, 3, none⟩ = some t ∧ ∀ j, w.frozen? ⟨p, j, none⟩ = false := by
  refine ⟨?_, ?_, ?_, ?_, fun j => ?_⟩ <;> simp [World.cell?, World.frozen?, h, pairO]
theorem pair_set1 {w : World} {p b rb : Nat} {l t : Value} (h : w.heap[p]? = some (pairO b l rb t)) (v : Value) : (w.setCell ⟨p, 1, none⟩ v).heap[p]? = some (pairO b v rb t) := by simp [World.setCell, Array.getElem?_modify, h, pairO]
theorem pair_set3 {w : World} {p b rb : Nat} {l t : Value} (h : w.heap[p]? = some (pairO b l rb t)) (v : Value) : (w.setCell ⟨p, 3, none⟩ v).heap[p]? = some (pairO b l rb v) := by simp [World.setCell, Array.getElem?_modify, h, pairO]
section
variable {w0 w w' : World} {b rb lb p n : Nat} {f : Int} {P : Nat → Prop} {s : St} {R : List Bts}
theorem wopen_yes (H : HasP w0 b P n w s) (f : Int) (hn : n ≤ 999999) (g : (openS s f).1 = 0) : Calls Try.prog 17 #[dp b, .int .i64 f] w fun e w' => ∃ lb, e = .returned (.tuple #[lp lb, .int .i64 0]) ∧ Wal w0 b lb f P n w' (openS s f).2 (rowsOf (s.data f.toNat)) ∧ Keep P w w' :=
  (open_any H f hn).mono fun e w1 ⟨hk, h⟩ => by
    rcases h with ⟨_, lb, he, h2, _⟩ | ⟨h1, _⟩
    · exact ⟨lb, he, h2, hk⟩
    · exact absurd g h1
theorem wopen_no (H : HasP w0 b P n w s) (f : Int) (hn : n ≤ 999999) (g : ¬ (openS s f).1 = 0) : Calls Try.prog 17 #[dp b, .int .i64 f] w fun e w' => e = .returned (.tuple #[.pointer none, .int .i64 (openS s f).1]) ∧ HasP w0 b P n w' (openS s f).2 ∧ Keep P w w' :=
  (open_any H f hn).mono fun e w1 ⟨hk, h⟩ => by
    rcases h with ⟨h1, _⟩ | ⟨_, he, h2⟩
    · exact absurd h1 g
    · exact ⟨he, h2, hk⟩
theorem vopen_yes (H : RHas w0 b P n w s) (f : Int) (hn : n ≤ 999999) (g : (openS s f).1 = 0) : Calls Try.prog 53 #[dp b, .int .i64 f] w fun e w' => ∃ lb, e = .returned (.tuple #[lp lb, .int .i64 0]) ∧ RWal w0 b lb f P n w' (openS s f).2 (rowsOf (s.data f.toNat)) ∧ Keep P w w' :=
  (ropen_any H f hn).mono fun e w1 ⟨hk, h⟩ => by
    rcases h with ⟨_, lb, he, h2, _⟩ | ⟨h1, _⟩
    · exact ⟨lb, he, h2, hk⟩
    · exact absurd g h1
theorem vopen_no (H : RHas w0 b P n w s) (f : Int) (hn : n ≤ 999999) (g : ¬ (openS s f).1 = 0) : Calls Try.prog 53 #[dp b, .int .i64 f] w fun e w' => e = .returned (.tuple #[.pointer none, .int .i64 (openS s f).1]) ∧ RHas w0 b P n w' (openS s f).2 ∧ Keep P w w' :=
  (ropen_any H f hn).mono fun e w1 ⟨hk, h⟩ => by
    rcases h with ⟨h1, _⟩ | ⟨_, he, h2⟩
    · exact absurd h1 g
    · exact ⟨he, h2, hk⟩
/-- The pair: its disks and logs stand at the same plain state. -/
def PairIs (w0 : World) (p b rb n : Nat) (w : World) (s : St) (f : Int) (R : Option (List Bts)) : Prop :=
  (R = none ∧ Sep w0 (fun k => k = p) (HX w0 b n s) (RX w0 rb n s) w ∧ w.heap[p]? = some (pairO b (.pointer none) rb (.pointer none))) ∨
  ∃ R1 lb rlb, R = some R1 ∧ Sep w0 (fun k => k = p) (WX w0 b lb f n s R1) (VX w0 rb rlb f n s R1) w ∧ w.heap[p]? = some (pairO b (lp lb) rb (lp rlb))
theorem PairIs.disks {R : Option (List Bts)} (h : PairIs w0 p b rb n w s f R) : ∃ l t, Sep w0 (fun k => k = p) (HX w0 b n s) (RX w0 rb n s) w ∧ w.heap[p]? = some (pairO b l rb t) := by
  rcases h with ⟨_, h1, h2⟩ | ⟨R1, lb, rlb, _, h1, h2⟩
  · exact ⟨_, _, h1, h2⟩
  · exact ⟨_, _, h1.mono (fun _ _ h => Wal.has h) (fun _ _ h => RWal.has h), h2⟩
theorem PairIs.below {R : Option (List Bts)} (h : PairIs w0 p b rb n w s f R) : Below w0.heap.size w0 w := by
  obtain ⟨l, t, h1, _⟩ := h.disks
  exact h1.below mov_h
def OpenedIs (w0 : World) (p b rb n : Nat) (s : St) (f : Int) (e : Ending) (w' : World) : Prop :=
  e = .returned (.bool true) ∧ ∃ R, PairIs w0 p b rb n w' (openS s f).2 f R ∧ ∀ R1, R = some R1 → R1.length ≤ 16777216
theorem open_rows (H : Ok s) (g : (openS s f).1 = 0) : (rowsOf (s.data f.toNat)).length ≤ 16777216 := by
  have h1 := rows_len (s.data f.toNat)
  have hf : ¬ (f < 0 ∨ 6 < f) := fun q => by unfold openS at g; rw [if_pos q] at g; simp at g
  have := H.len f.toNat (by omega)
  omega
set_option maxRecDepth 100000 in
set_option maxHeartbeats 4000000 in
theorem popen_any {l t : Value} (h : Sep w0 (fun k => k = p) (HX w0 b n s) (RX w0 rb n s) w) (box : w.heap[p]? = some (pairO b l rb t)) (f : Int) (hn : n ≤ 999999) :
    Calls Try.prog 29 #[pp p, .int .i64 f] w (OpenedIs w0 p b rb n s f) := by
  obtain ⟨P, hH, hO, hold, back⟩ := h.first mov_r
  have hH : HasP w0 b P n w s := hH
  have hok := hH.ok
  have hpl := (h.ol p rfl).2
  obtain ⟨a0, a1, a2, a3, af⟩ := pair_cells box
  unfold dp at a0 a2
  by_cases g : (openS s f).1 = 0
  case pos =>
    have hrl := open_rows hok g
    have K1 := Lib.hid (wopen_yes hH f hn g)
    unfold dp at K1
    unfold pp
    go_enter Try.func29, Try.ntmps29
    go_wp2_with fail
    go_at_call 17
    refine K1.out.mono ?_
    rintro e w1 ⟨lb, rfl, hW, k1⟩
    have sep1 := back (X' := WX w0 b lb f n (openS s f).2 (rowsOf (s.data f.toNat))) hW k1 hW.below
    have box1 := (k1.block p hpl (hO p rfl)).trans box
    obtain ⟨b0, b1, b2, b3, bf⟩ := pair_cells box1
    unfold dp at b0 b2
    have hpl1 := (sep1.ol p rfl).2
    clear back K1 hW k1 a0 a1 a2 a3 af
    obtain ⟨P2, hR, hO2, -, back2⟩ := sep1.second mov_w
    have hR : RHas w0 rb P2 n w1 s := hR
    have K2 := Lib.hid (vopen_yes hR f hn g)
    unfold dp at K2
    go_wp2_with fail
    go_at_call 53
    refine K2.out.mono ?_
    rintro e w2 ⟨rlb, rfl, hV, k2⟩
    have sep2 := back2 (Y' := VX w0 rb rlb f n (openS s f).2 (rowsOf (s.data f.toNat))) hV k2 hV.below
    have box2 := (k2.block p hpl1 (hO2 p rfl)).trans box1
    obtain ⟨c0, c1, c2, c3, cf⟩ := pair_cells box2
    have cf1 := cf 1
    have cf3 := cf 3
    clear back2 K2 hV k2 b0 b1 b2 b3 bf cf
    have sep3 := (sep2.set_ mov_w mov_v rfl 1 (lp lb)).set_ mov_w mov_v rfl 3 (lp rlb)
    have box3 := pair_set3 (pair_set1 box2 (lp lb)) (lp rlb)
    replace sep3 := Lib.hid sep3
    replace box3 := Lib.hid box3
    unfold lp at sep3 box3 ⊢
    go_wp2_with fail
    go_ret
    exact ⟨rfl, some (rowsOf (s.data f.toNat)), .inr ⟨_, lb, rlb, rfl, sep3.out, box3.out⟩, fun R1 e => by injection e with e; rw [← e]; exact hrl⟩
  case neg =>
    have K1 := Lib.hid (wopen_no hH f hn g)
    unfold dp at K1
    unfold pp
    obtain ⟨v, hv⟩ : ∃ v, (openS s f).1 = v := ⟨_, rfl⟩
    rw [hv] at K1
    go_enter Try.func29, Try.ntmps29
    go_wp2_with fail
    go_at_call 17
    refine K1.out.mono ?_
    rintro e w1 ⟨rfl, hW, k1⟩
    have sep1 := back (X' := HX w0 b n (openS s f).2) hW k1 hW.below
    have box1 := (k1.block p hpl (hO p rfl)).trans box
    obtain ⟨b0, b1, b2, b3, bf⟩ := pair_cells box1
    unfold dp at b0 b2
    have hpl1 := (sep1.ol p rfl).2
    clear back K1 hW k1 a0 a1 a2 a3 af
    obtain ⟨P2, hR, hO2, -, back2⟩ := sep1.second mov_h
    have hR : RHas w0 rb P2 n w1 s := hR
    have K2 := Lib.hid (vopen_no hR f hn g)
    unfold dp at K2
    rw [hv] at K2
    go_wp2_with fail
    go_at_call 53
    refine K2.out.mono ?_
    rintro e w2 ⟨rfl, hV, k2⟩
    have sep2 := back2 (Y' := RX w0 rb n (openS s f).2) hV k2 hV.below
    have box2 := (k2.block p hpl1 (hO2 p rfl)).trans box1
    obtain ⟨c0, c1, c2, c3, cf⟩ := pair_cells box2
    have cf1 := cf 1
    have cf3 := cf 3
    clear back2 K2 hV k2 b0 b1 b2 b3 bf cf
    have sep3 := (sep2.set_ mov_h mov_r rfl 1 (.pointer none)).set_ mov_h mov_r rfl 3 (.pointer none)
    have box3 := pair_set3 (pair_set1 box2 (.pointer none)) (.pointer none)
    replace sep3 := Lib.hid sep3
    replace box3 := Lib.hid box3
    clear hv g
    go_wp2_with fail
    go_ret
    exact ⟨rfl, none, .inl ⟨rfl, sep3.out, box3.out⟩, fun R1 e => by cases e⟩
end
end Go.Proofs.Ytmnimcdbfolhaaa

