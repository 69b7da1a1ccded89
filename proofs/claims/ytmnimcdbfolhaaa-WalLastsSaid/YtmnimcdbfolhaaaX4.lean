/- The walk of after. -/
import Derived.Test.YtmnimcdbfolhaaaX3
import Derived.Test.YtmnimcdbfolhaaaSM
set_option linter.unusedSimpArgs false
set_option linter.unusedVariables false
namespace Go.Proofs.Ytmnimcdbfolhaaa
open Go.RowKit DK
attribute [local go_sem] alloc_drewN setCell_drewN shape_drewN
theorem low_three (n : Int) : bits .and .i64 n 7 = n % 8 := by
  have h1 : (BitVec.ofInt 64 n &&& BitVec.ofInt 64 7).toNat = (n % 18446744073709551616).toNat % 8 := by
    rw [BitVec.toNat_and, BitVec.toNat_ofInt, BitVec.toNat_ofInt]
    have e1 : ((7 : Int) % ((2 ^ 64 : Nat) : Int)).toNat = 2 ^ 3 - 1 := by decide
    have e2 : ((2 ^ 64 : Nat) : Int) = 18446744073709551616 := by decide
    rw [e1, e2, Nat.and_two_pow_sub_one_eq_mod]
  show IntKind.i64.wrap ((BitVec.ofInt 64 n &&& BitVec.ofInt 64 7).toNat : Int) = _
  rw [h1, IntKind.wrap_i64]
  omega
/-- A block of others may be written. -/
theorem Wal.poke {w0 w w' : World} {b lb : Nat} {f : Int} {P : Nat → Prop} {n : Nat} {s : St} {R : List Bts} (h : Wal w0 b lb f P n w s R) {row : Option Nat} (hg : w.grownBy w' row) (hr : ∀ k, row = some k → P k ∧ w0.heap.size ≤ k) : Wal w0 b lb f P n w' s R := by
  obtain ⟨o, c, hL, hP, H⟩ := h.at_
  have hk : ∀ k, k < w.heap.size → ¬ P k ∨ k < w0.heap.size → w'.heap[k]? = w.heap[k]? := fun k hk q => hg.block k hk fun e => by
    obtain ⟨h1, h2⟩ := hr k e.symm
    rcases q with q | q
    · exact q h1
    · omega
  refine ⟨⟨o, c, ⟨?_, row_heap hL.row fun g e => ?_⟩, hP, H.turn_ hg.os hg.tape hg.output hg.size (fun k hk1 q => hk k hk1 (q.imp (fun q r => q (.inl r)) id)) fun k q => ⟨.inl q, Nat.lt_of_lt_of_le (H.lt k q) hg.size⟩⟩, h.base⟩
  · rw [hk lb hL.lt (.inl fun q => (hP lb q).1 rfl)]; exact hL.obj
  · rw [ad_block] at e
    exact hk g (hL.olt e).2 (.inl fun q => (hP g q).2 e)
theorem Wal.set_ {w0 w : World} {b lb : Nat} {f : Int} {P : Nat → Prop} {n : Nat} {s : St} {R : List Bts} (h : Wal w0 b lb f P n w s R) {H : Nat} (j : Nat) (v : Value) (h1 : P H) (h2 : w0.heap.size ≤ H) : Wal w0 b lb f P n (w.setCell ⟨H, j, none⟩ v) s R :=
  h.poke (row := some H) ⟨rfl, rfl, rfl, by simp, fun k _ hk => Below.heap_setCell _ _ _ _ fun e => hk (by rw [e])⟩ fun k e => by injection e with e; subst e; exact ⟨h1, h2⟩
theorem StrsP.set_ {Q : Nat → Prop} {w : World} {A : Option Addr} {l : List Bts} {H : Nat} (h : StrsP Q w A l) (hq : ∀ k, Q k → k ≠ H) (j : Nat) (v : Value) : StrsP Q (w.setCell ⟨H, j, none⟩ v) A l := fun hl => by
  obtain ⟨b, off, e, hp, hb, hc⟩ := h hl
  exact ⟨b, off, e, hp, by simpa using hb, fun j2 hj => (World.cell?_of_block (a := ⟨b, off + j2, none⟩) (Below.heap_setCell _ _ _ _ (hq b hp))).trans (hc j2 hj)⟩
theorem Keep.set_ {P : Nat → Prop} {w w' : World} (h : Keep P w w') {H : Nat} (hp : ∀ k, P k → k ≠ H) (j : Nat) (v : Value) : Keep P w (w'.setCell ⟨H, j, none⟩ v) :=
  ⟨by have := h.size; simpa using this, fun k hk q => (Below.heap_setCell _ _ _ _ (hp k q)).trans (h.block k hk q)⟩
theorem c5of {w : World} {N t : Nat} {a b c d e : Value} (h : w.heap[N]? = some (.cells #[a, b, c, d, e] t (0, 0))) : w.cell? ⟨N, 0, none⟩ = some a ∧ w.cell? ⟨N, 1, none⟩ = some b ∧ w.cell? ⟨N, 2, none⟩ = some c ∧ w.cell? ⟨N, 3, none⟩ = some d ∧ w.cell? ⟨N, 4, none⟩ = some e := by
  refine ⟨?_, ?_, ?_, ?_, ?_⟩ <;> simp [World.cell?, h]
theorem c4of {w : World} {N t : Nat} {a b c d : Value} (h : w.heap[N]? = some (.cells #[a, b, c, d] t (0, 0))) : w.cell? ⟨N, 0, none⟩ = some a ∧ w.cell? ⟨N, 1, none⟩ = some b ∧ w.cell? ⟨N, 2, none⟩ = some c ∧ w.cell? ⟨N, 3, none⟩ = some d ∧ ∀ j, w.frozen? ⟨N, j, none⟩ = false := by
  refine ⟨?_, ?_, ?_, ?_, fun j => ?_⟩ <;> simp [World.cell?, World.frozen?, h]
theorem set4_0 {w : World} {N t : Nat} {a b c d : Value} (h : w.heap[N]? = some (.cells #[a, b, c, d] t (0, 0))) (v : Value) : (w.setCell ⟨N, 0, none⟩ v).heap[N]? = some (.cells #[v, b, c, d] t (0, 0)) := by simp [World.setCell, Array.getElem?_modify, h]
theorem set4_1 {w : World} {N t : Nat} {a b c d : Value} (h : w.heap[N]? = some (.cells #[a, b, c, d] t (0, 0))) (v : Value) : (w.setCell ⟨N, 1, none⟩ v).heap[N]? = some (.cells #[a, v, c, d] t (0, 0)) := by simp [World.setCell, Array.getElem?_modify, h]
theorem set4_2 {w : World} {N t : Nat} {a b c d : Value} (h : w.heap[N]? = some (.cells #[a, b, c, d] t (0, 0))) (v : Value) : (w.setCell ⟨N, 2, none⟩ v).heap[N]? = some (.cells #[a, b, v, d] t (0, 0)) := by simp [World.setCell, Array.getElem?_modify, h]
theorem set4_3 {w : World} {N t : Nat} {a b c d : Value} (h : w.heap[N]? = some (.cells #[a, b, c, d] t (0, 0))) (v : Value) : (w.setCell ⟨N, 3, none⟩ v).heap[N]? = some (.cells #[a, b, c, v] t (0, 0)) := by simp [World.setCell, Array.getElem?_modify, h]
structure HopeC where
  AA : Option Addr
  ac : Nat
  all : List Bts
  HA : Option Addr
  hc : Nat
  hs : List Bts
  FA : Option Addr
  fc : Nat
  fr : List Bts
  tried : Bool
def HopeC.val (h : HopeC) : Value := .agg #[.slice h.AA h.all.length h.ac, .slice h.HA h.hs.length h.hc, .slice h.FA h.fr.length h.fc, .bool h.tried]
/-- What after has shown: the disk is up, and the log goes on; or it is down, and what is hoped for holds. -/
def AftP (s' : St) (R' sf' all hs : List Bts) : Prop :=
  (s'.down = false ∧ ∃ R0 X t, Up2 s' R0 X ∧ R' = R0 ++ X ∧ R0 = sf' ++ t) ∨ (s'.down = true ∧ Ok s' ∧ Cov s' ∧ pfx all (rowsOf (s'.data 2)) = true ∧ pfx (rowsOf (s'.data 2)) hs = true)
theorem up2_lose {s : St} {R0 X : List Bts} (h : Up2 s R0 X) (n : Int) : Up2 (DK.lose s n) R0 X := ⟨h.ok.lose n, h.cov, h.down, ⟨h.recs.len, h.recs.data, h.recs.dur, h.recs.segs⟩⟩
theorem up2_arm {s : St} {R0 X : List Bts} (h : Up2 s R0 X) (n : Int) (k : List Int) : Up2 (DK.arm s n k) R0 X := ⟨h.ok.arm n k, h.cov, h.down, ⟨h.recs.len, h.recs.data, h.recs.dur, h.recs.segs⟩⟩
theorem Wal.poke_ {w0 w w' : World} {b lb : Nat} {f : Int} {P : Nat → Prop} {n : Nat} {s : St} {R : List Bts} (h : Wal w0 b lb f P n w s R) {row : Option Nat} (hg : w.grownBy w' row) (hr : ∀ k, row = some k → P k ∧ w0.heap.size ≤ k) : Wal w0 b lb f (fun k => P k ∨ (w.heap.size ≤ k ∧ k < w'.heap.size)) n w' s R := by
  obtain ⟨o, c, hL, hP, H⟩ := h.at_
  have hk : ∀ k, k < w.heap.size → ¬ P k ∨ k < w0.heap.size → w'.heap[k]? = w.heap[k]? := fun k hk q => hg.block k hk fun e => by
    obtain ⟨h1, h2⟩ := hr k e.symm
    rcases q with q | q
    · exact q h1
    · omega
  refine ⟨⟨o, c, ⟨?_, row_heap hL.row fun g e => ?_⟩, fun k q => ?_, H.turn_ hg.os hg.tape hg.output hg.size (fun k hk1 q => hk k hk1 (q.imp (fun q r => q (.inl r)) id)) fun k q => ?_⟩, h.base⟩
  · rw [hk lb hL.lt (.inl fun q => (hP lb q).1 rfl)]; exact hL.obj
  · rw [ad_block] at e
    exact hk g (hL.olt e).2 (.inl fun q => (hP g q).2 e)
  · rcases q with q | q
    · exact hP k q
    · have := hL.lt
      exact ⟨by omega, fun e => by have := hL.olt e; omega⟩
  · have hz := hg.size
    rcases q with (q | q) | q
    · exact ⟨.inl (.inl q), Nat.lt_of_lt_of_le (H.lt k (.inl q)) hz⟩
    · exact ⟨.inr q.1, q.2⟩
    · exact ⟨.inl (.inr q), Nat.lt_of_lt_of_le (H.lt k (.inr q)) hz⟩
theorem strs_new {P : Nat → Prop} {w : World} {base c n : Nat} {o : Option Nat} {l : List Bts} (h : w.ownsRow base 9 1 (.slice (ad o) n c) n (strV l)) (hn : l.length = n) (hP : ∀ k, base ≤ k → k < w.heap.size → P k) : StrsP P w (ad o) l := by
  subst hn
  exact (strs_of_owns h).sub fun k h1 h2 => hP k h2 h1
theorem recs_few (l : List Bts) (h1 : l.length ≤ 12) (h2 : ∀ x ∈ l, x.length ≤ 2000) : (recs l).length ≤ 100000 := by
  have : ∀ l : List Bts, (∀ x ∈ l, x.length ≤ 2000) → (recs l).length ≤ l.length * 2007 := fun l => by
    induction l with
    | nil => intro _; simp [recs]
    | cons x l ih =>
      intro h
      have h3 := ih fun y hy => h y (List.mem_cons_of_mem _ hy)
      have h4 := h x (List.mem_cons_self ..)
      rw [recs_cons, List.length_append, recd_len, List.length_cons]
      omega
  have := this l h2
  omega
theorem wapp_len {s : St} {f : Int} {R : List Bts} {x : Bts} {v : Int} {s' : St} {R' : List Bts} (h : wappS s f R x = (v, s', R')) : R'.length ≤ R.length + 1 := by
  unfold wappS at h
  split at h
  · injection h with _ h; injection h with _ h; rw [← h]; omega
  · injection h with _ h; injection h with _ h; rw [← h]; split <;> simp
theorem aft_down {s' : St} {R' sf' R0 X Y sf : List Bts} {j : Nat} (h1 : s'.down = true) (h2 : Ok s') (h3 : Cov s') (h : rowsOf (s'.data 2) = R0 ++ (X ++ Y).take j) (ht : ∃ t, R0 = sf ++ t) : AftP s' R' sf' ((R0 ++ X) ++ Y) sf := by
  refine .inr ⟨h1, h2, h3, ?_, ?_⟩
  · rw [pfx_iff]; exact ⟨(X ++ Y).drop j, by rw [h, List.append_assoc, List.append_assoc, List.take_append_drop]⟩
  · obtain ⟨t, ht⟩ := ht
    rw [pfx_iff]; exact ⟨t ++ (X ++ Y).take j, by rw [h, ht, List.append_assoc]⟩
theorem aft_down0 {s' : St} {R' sf' R0 X sf : List Bts} {j : Nat} (h1 : s'.down = true) (h2 : Ok s') (h3 : Cov s') (h : rowsOf (s'.data 2) = R0 ++ X.take j) (ht : ∃ t, R0 = sf ++ t) : AftP s' R' sf' (R0 ++ X) sf := by
  have := aft_down (R' := R') (sf' := sf') (Y := []) (j := j) h1 h2 h3 (by rw [List.append_nil]; exact h) ht
  rwa [List.append_nil] at this
theorem strs_app {P : Nat → Prop} {w : World} {base c n : Nat} {o : Option Nat} {l : List Bts} (h : w.ownsRow base 9 1 (.slice (ad o) n c) n (strV l)) (hn : l.length = n) (hP : ∀ k, o = some k → P k) : StrsP P w (ad o) l := by
  subst hn
  intro hl
  obtain ⟨b1, off, e1, q1, q2, q3⟩ := strs_of_owns h hl
  have hob : o = some b1 := by cases o with
    | none => cases e1
    | some g => injection e1 with e1; injection e1 with e1; rw [e1]
  exact ⟨b1, off, e1, hP b1 hob, q2, q3⟩
theorem fin_cells {wb : World} {N t : Nat} {a b c d : Value} (h : wb.heap[N]? = some (.cells #[a, b, c, d] t (0, 0))) (x y z u : Value) :
    (((((wb.setCell ⟨N, 0, none⟩ x).setCell ⟨N, 1, none⟩ y).setCell ⟨N, 2, none⟩ z).setCell ⟨N, 3, none⟩ u).drew).cell? ⟨N, 0, none⟩ = some x ∧ (((((wb.setCell ⟨N, 0, none⟩ x).setCell ⟨N, 1, none⟩ y).setCell ⟨N, 2, none⟩ z).setCell ⟨N, 3, none⟩ u).drew).cell? ⟨N, 1, none⟩ = some y ∧ (((((wb.setCell ⟨N, 0, none⟩ x).setCell ⟨N, 1, none⟩ y).setCell ⟨N, 2, none⟩ z).setCell ⟨N, 3, none⟩ u).drew).cell? ⟨N, 2, none⟩ = some z ∧ (((((wb.setCell ⟨N, 0, none⟩ x).setCell ⟨N, 1, none⟩ y).setCell ⟨N, 2, none⟩ z).setCell ⟨N, 3, none⟩ u).drew).cell? ⟨N, 3, none⟩ = some u := by
  have h4 := set4_3 (set4_2 (set4_1 (set4_0 h x) y) z) u
  generalize (((wb.setCell ⟨N, 0, none⟩ x).setCell ⟨N, 1, none⟩ y).setCell ⟨N, 2, none⟩ z).setCell ⟨N, 3, none⟩ u = wf at h4 ⊢
  obtain ⟨u0, u1, u2, u3, -⟩ := c4of h4
  exact ⟨u0, u1, u2, u3⟩
def AfterIs (w0 : World) (b lb : Nat) (P : Nat → Prop) (E n B : Nat) (w : World) (e : Ending) (w' : World) : Prop :=
  ∃ (P' : Nat → Prop) (s' : St) (R' sf' : List Bts) (SA' : Option Addr) (sc' : Nat) (h : HopeC), (∀ k, P k → P' k) ∧ e = .returned (.tuple #[.slice SA' sf'.length sc', h.val]) ∧ Wal w0 b lb 2 P' (n + 1) w' s' R' ∧ Keep P w w' ∧
    StrsP (fun k => P' k ∧ k ≠ E) w' SA' sf' ∧ StrsP (fun k => P' k ∧ k ≠ E) w' h.AA h.all ∧ StrsP (fun k => P' k ∧ k ≠ E) w' h.HA h.hs ∧ StrsP (fun k => P' k ∧ k ≠ E) w' h.FA h.fr ∧ R'.length ≤ B + 12 ∧ sf'.length ≤ B + 12 ∧ h.all.length ≤ B + 12 ∧ h.hs.length ≤ B + 12 ∧ h.fr.length ≤ B + 12 ∧ AftP s' R' sf' h.all h.hs
theorem after_end {w0 w wb : World} {b lb n n4 B N t NS NA NF E : Nat} {P0 P Q : Nat → Prop} {s' : St} {R' sf' all fr : List Bts} {SA AA FA : Option Addr} {sc ac fc : Nat} {T : Bool} {a1 b1 c1 d1 : Value} (more : n4 ≤ n + 1) (hZ : wb.heap[N + 1]? = some (.cells #[a1, b1, c1, d1] t (0, 0))) (hW : Wal w0 b lb 2 P n4 wb s' R') (hk : Keep P0 w wb) (h1 : ∀ k, P0 k → k ≠ N + 1) (h2 : ∀ k, Q k → k ≠ N + 1) (h3 : ∀ k, Q k → P k) (h4 : P (N + 1)) (h5 : w0.heap.size ≤ N + 1) (h6 : ∀ k, P0 k → P k) (h7 : ∀ k, Q k → k ≠ E)
    (sS : StrsP Q wb SA sf') (sA : StrsP Q wb AA all) (sF : StrsP Q wb FA fr) (e1 : sf'.length = NS) (e2 : all.length = NA) (e3 : fr.length = NF) (l1 : R'.length ≤ B + 12) (l2 : sf'.length ≤ B + 12) (l3 : all.length ≤ B + 12) (l4 : fr.length ≤ B + 12) (hp : AftP s' R' sf' all sf') :
    AfterIs w0 b lb P0 E n B w (.returned (.tuple #[.slice SA NS sc, .agg #[.slice AA NA ac, .slice SA NS sc, .slice FA NF fc, .bool T]])) (((((wb.setCell ⟨N + 1, 0, none⟩ (.slice AA NA ac)).setCell ⟨N + 1, 1, none⟩ (.slice SA NS sc)).setCell ⟨N + 1, 2, none⟩ (.slice FA NF fc)).setCell ⟨N + 1, 3, none⟩ (.bool T)).drew) := by
  subst e1 e2 e3
  have S : ∀ {A : Option Addr} {l : List Bts}, StrsP Q wb A l → StrsP (fun k => P k ∧ k ≠ E) (((((wb.setCell ⟨N + 1, 0, none⟩ (.slice AA all.length ac)).setCell ⟨N + 1, 1, none⟩ (.slice SA sf'.length sc)).setCell ⟨N + 1, 2, none⟩ (.slice FA fr.length fc)).setCell ⟨N + 1, 3, none⟩ (.bool T)).drew) A l := fun s => by
    have s4 := (((s.set_ h2 0 (.slice AA all.length ac)).set_ h2 1 (.slice SA sf'.length sc)).set_ h2 2 (.slice FA fr.length fc)).set_ h2 3 (.bool T)
    generalize (((wb.setCell ⟨N + 1, 0, none⟩ (.slice AA all.length ac)).setCell ⟨N + 1, 1, none⟩ (.slice SA sf'.length sc)).setCell ⟨N + 1, 2, none⟩ (.slice FA fr.length fc)).setCell ⟨N + 1, 3, none⟩ (.bool T) = wf at s4 ⊢
    have hd : Below wf.heap.size wf wf.drew := (Below.refl _ _).drew
    exact (s4.below hd).sub fun k _ q => ⟨h3 k q, h7 k q⟩
  have hk4 := (((hk.set_ h1 0 (.slice AA all.length ac)).set_ h1 1 (.slice SA sf'.length sc)).set_ h1 2 (.slice FA fr.length fc)).set_ h1 3 (.bool T)
  have hw4 := (((hW.set_ 0 (.slice AA all.length ac) h4 h5).set_ 1 (.slice SA sf'.length sc) h4 h5).set_ 2 (.slice FA fr.length fc) h4 h5).set_ 3 (.bool T) h4 h5
  have sS := S sS
  have sA := S sA
  have sF := S sF
  clear S
  generalize (((wb.setCell ⟨N + 1, 0, none⟩ (.slice AA all.length ac)).setCell ⟨N + 1, 1, none⟩ (.slice SA sf'.length sc)).setCell ⟨N + 1, 2, none⟩ (.slice FA fr.length fc)).setCell ⟨N + 1, 3, none⟩ (.bool T) = wf at hk4 hw4 sS sA sF ⊢
  have hd : Below wf.heap.size wf wf.drew := (Below.refl _ _).drew
  have hw5 := (hw4.below_ hd).more more
  have hk5 := hk4.trans (Keep.of_below hd)
  exact ⟨P, s', R', sf', SA, sc, ⟨AA, ac, all, SA, sc, sf', FA, fc, fr, T⟩, h6, rfl, hw5, hk5, sS, sA, sS, sF, l1, l2, l3, l2, l4, hp⟩
set_option maxRecDepth 100000 in
set_option maxHeartbeats 16000000 in
theorem after_any {w0 w : World} {b lb n B E : Nat} {P : Nat → Prop} {s : St} {R R0 X sf : List Bts} (a : WA) (SA : Option Addr) (sc : Nat) (h : Wal w0 b lb 2 P n w s R) (hU : Hid (Up2 s R0 X)) (hR : Hid (R = R0 ++ X)) (hsf : Hid (∃ t, R0 = sf ++ t)) (hS : StrsP (fun k => P k ∧ k ≠ E) w SA sf) (hE0 : w0.heap.size ≤ E) (hEN : E < w.heap.size) (hB : R.length ≤ B) (hB1 : sf.length ≤ B) (hB2 : B ≤ 1000) (hn : n ≤ 1000)
    (hP0 : ∀ k, k < w0.heap.size → P k) (hL : StrsAt w0 w0.heap.size a.LA a.L) (hK : IntsAt w0 w0.heap.size a.KA a.K) (ha1 : Hid (∀ x ∈ a.L, x.length ≤ 2000)) (ha2 : a.L.length ≤ 12) (ha3 : a.K.length ≤ 8) (ha4 : a.s.length ≤ 2000) (hN : a.n ≤ 9223372036854775807) (h4 : a.d % 8 ≠ 4) :
    Calls Try.prog 37 #[dp b, lp lb, .agg #[.int .i64 a.d, .string (bs a.s), .slice a.LA a.L.length a.Lc, .int .i64 a.n, .slice a.KA a.K.length a.Kc], .slice SA sf.length sc] w (AfterIs w0 b lb P E n B w) := by
  have e7 := low_three a.d
  obtain ⟨D, hD⟩ : ∃ D, a.d % 8 = D := ⟨_, rfl⟩
  rw [hD] at e7 h4
  have hD8 : 0 ≤ D ∧ D < 8 := by omega
  clear hD
  obtain ⟨d, s1, LA, Lc, L, an, KA, Kc, K⟩ := a
  dsimp only at e7 hL hK ha1 ha2 ha3 ha4 hN ⊢
  obtain ⟨NR, hNR⟩ : ∃ m, R.length = m := ⟨_, rfl⟩
  obtain ⟨NS, hNS⟩ : ∃ m, sf.length = m := ⟨_, rfl⟩
  obtain ⟨NL, hNL⟩ : ∃ m, L.length = m := ⟨_, rfl⟩
  obtain ⟨NK, hNK⟩ : ∃ m, K.length = m := ⟨_, rfl⟩
  rw [hNR] at hB
  rw [hNS] at hB1
  rw [hNL] at ha2
  rw [hNK] at ha3
  rw [hNS, hNL, hNK]
  unfold dp lp
  obtain ⟨w1, hw1⟩ : ∃ W, W = (w.alloc (.cells #[.int .i64 d, .string (bs s1), .slice LA NL Lc, .int .i64 an, .slice KA NK Kc] 60)).alloc (.cells #[.slice none 0 0, .slice none 0 0, .slice none 0 0, .bool false] 64) := ⟨_, rfl⟩
  have hb1 : Below w.heap.size w w1 := by rw [hw1]; exact ((Below.refl _ w).alloc (Nat.le_refl _) _).alloc (by simp) _
  obtain ⟨N, hNN⟩ : ∃ N, w.heap.size = N := ⟨_, rfl⟩
  have hz1 : w1.heap.size = N + 1 + 1 := by rw [hw1]; simp [hNN]
  have hA1 : w1.heap[N]? = some (.cells #[.int .i64 d, .string (bs s1), .slice LA NL Lc, .int .i64 an, .slice KA NK Kc] 60 (0, 0)) := by
    rw [hw1, ← hNN, Below.heap_alloc _ _ _ (by simp), World.alloc_heap_new]
  have hZ1 : w1.heap[N + 1]? = some (.cells #[.slice none 0 0, .slice none 0 0, .slice none 0 0, .bool false] 64 (0, 0)) := by
    rw [hw1, ← hNN]
    have := World.alloc_heap_new (w.alloc (.cells #[.int .i64 d, .string (bs s1), .slice LA NL Lc, .int .i64 an, .slice KA NK Kc] 60)) (.cells #[.slice none 0 0, .slice none 0 0, .slice none 0 0, .bool false] 64)
    rw [World.size_alloc] at this; exact this
  have KL := Lib.hid (all_any (h.below_ hb1) (by omega))
  rw [hw1] at KL
  unfold lp at KL
  unfold StrsNew at KL
  rw [hNR] at KL
  go_enter Try.func37, Try.ntmps37
  go_wp2_with fail
  go_at_call 25
  refine KL.out.mono ?_
  rintro e w2 ⟨hb2, o2, c2, rfl, hO2⟩
  rw [← hw1] at hb2 hO2
  rw [hz1] at hb2 hO2
  clear KL
  go_upto_region 2 with fail
  obtain ⟨H, hH⟩ : ∃ H, w2.heap.size = H := ⟨_, rfl⟩
  have hHN : N + 1 + 1 ≤ H := by have := hb2.size; omega
  rw [hNN] at hEN
  obtain ⟨w3, hw3⟩ : ∃ W, W = w2.alloc (.cells #[.slice (ad o2) NR c2, .slice SA NS sc, .slice none 0 0, .bool false] 64) := ⟨_, rfl⟩
  have hz3 : w3.heap.size = H + 1 := by rw [hw3]; simp [hH]
  have hb23 : Below H w2 w3 := by rw [hw3, ← hH]; exact below_new _ _
  have hb13 : Below (N + 1 + 1) w1 w3 := hb2.trans (hb23.mono hHN)
  have hb3 : Below N w w3 := by rw [hNN] at hb1; exact hb1.trans (hb13.mono (by omega))
  have hA3 : w3.heap[N]? = _ := (hb13.block N (by omega)).trans hA1
  have hZ3 : w3.heap[N + 1]? = _ := (hb13.block (N + 1) (by omega)).trans hZ1
  have hH3 : w3.heap[H]? = some (.cells #[.slice (ad o2) NR c2, .slice SA NS sc, .slice none 0 0, .bool false] 64 (0, 0)) := by rw [hw3, ← hH]; exact World.alloc_heap_new _ _
  have hO3 : w3.ownsRow (N + 1 + 1) 9 1 (.slice (ad o2) NR c2) NR (strV R) := row_heap hO2 fun k e => hb23.block k (by have := hO2.lt k e; omega)
  have ho2 : ∀ k, o2 = some k → N + 1 + 1 ≤ k ∧ k < H := fun k e => by have := hO2.lt k (by rw [ad_block]; exact e); omega
  obtain ⟨P1, hP1⟩ : ∃ P1 : Nat → Prop, P1 = fun k => P k ∨ (w.heap.size ≤ k ∧ k < w3.heap.size) := ⟨_, rfl⟩
  have hW3 := h.with_ (w' := w3) (by rw [hNN]; exact hb3)
  rw [← hP1] at hW3
  have hPP : ∀ k, P k → P1 k := fun k q => by rw [hP1]; exact .inl q
  have hPN : ∀ k, N ≤ k → k < H + 1 → P1 k := fun k q1 q2 => by rw [hP1]; exact .inr ⟨by omega, by omega⟩
  have hPl : ∀ k, P k → k < N := fun k q => by have := h.has.lt k q; omega
  have hw0 : w0.heap.size ≤ N := by have := h.below.size; omega
  have hk3 : Keep P w w3 := ⟨hb3.size, fun k hk _ => hb3.block k (by omega)⟩
  have hS3 : StrsP (fun k => P1 k ∧ k ≠ H ∧ k ≠ N + 1 ∧ k ≠ E) w3 SA sf := (hS.keep (hk3.sub fun k q => q.1)).sub fun k _ q => ⟨hPP k q.1, by have := hPl k q.1; omega, by have := hPl k q.1; omega, q.2⟩
  have hR3 : StrsP (fun k => P1 k ∧ k ≠ H ∧ k ≠ N + 1 ∧ k ≠ E) w3 (ad o2) R := by
    have := strs_of_owns (l := R) (by rw [hNR]; exact hO3)
    intro hl
    obtain ⟨b1, off, e1, q1, q2, q3⟩ := this hl
    have hob : o2 = some b1 := by cases o2 with
      | none => cases e1
      | some g => injection e1 with e1; injection e1 with e1; rw [e1]
    have := ho2 b1 hob
    exact ⟨b1, off, e1, ⟨hPN b1 (by omega) (by omega), by omega, by omega, by omega⟩, q2, q3⟩
  rw [hH]
  rw [← hw3]
  clear hw1 hw3 hb1 hb2 hb23 hb13 hA1 hZ1 hO2 hz1
  rcases (show D = 0 ∨ D = 1 ∨ D = 2 ∨ D = 3 ∨ D = 5 ∨ D = 6 ∨ D = 7 by omega) with hD | hD | hD | hD | hD | hD | hD
  · subst hD
    obtain ⟨a0, a1, a2, a3, a4⟩ := c5of hA3
    obtain ⟨v, s4, R4, hv⟩ : ∃ v s4 R4, wappS s 2 R s1 = (v, s4, R4) := ⟨_, _, _, rfl⟩
    have hout := wapp_out hU.out hR.out s1 (by omega) hv
    have hlen := wapp_len hv
    obtain ⟨NR4, hNR4⟩ : ∃ m, R4.length = m := ⟨_, rfl⟩
    rw [hNR, hNR4] at hlen
    have KC := Lib.hid (wapp_any hW3 s1 (by omega) (by omega) (by omega) hv)
    unfold lp at KC
    replace hW3 := Lib.hid hW3
    clear hv
    go_upto_region 8 with (first | (go_at_call 19; refine KC.out.mono ?_; rintro e w4 ⟨rfl, hW4, k4⟩) | fail)
    clear KC
    have hH4 := (k4.block H (by omega) (hPN H (by omega) (by omega))).trans hH3
    have hZ4 := (k4.block (N + 1) (by omega) (hPN (N + 1) (by omega) (by omega))).trans hZ3
    have hS4 := hS3.keep (k4.sub fun k q => q.1)
    have hR4 := hR3.keep (k4.sub fun k q => q.1)
    have hk4 := hk3.trans (k4.sub hPP)
    have hz4 : H + 1 ≤ w4.heap.size := by have := k4.size; omega
    have hF4 := StrsP.nil (fun k => P1 k ∧ k ≠ H ∧ k ≠ N + 1 ∧ k ≠ E) w4 none
    have hA4 := (k4.block N (by omega) (hPN N (by omega) (by omega))).trans hA3
    rcases hout with ⟨hv9, X', hU4, hR4e⟩ | ⟨rfl, hok4, hcov4, hdn, rfl, j, hrows⟩
    · have q9 : (v == 9) = false := by simpa using hv9
      have hdn : s4.down = false := hU4.down
      have KL := Lib.hid (all_any hW4 (by omega))
      unfold lp StrsNew at KL
      rw [hNR4] at KL
      replace hW4 := Lib.hid hW4
      clear hv9
      go_upto_region 26 with (first | (go_at_call 25; refine KL.out.mono ?_; rintro e w5 ⟨hb5, o5, c5, rfl, hO5⟩; have hH5 := (hb5.block H (by omega)).trans hH4; obtain ⟨p0, p1, p2, p3, pf⟩ := c4of hH5; have pf0 := pf 0) | fail)
      clear KL p0 p1 p2 p3 pf pf0
      have hZ5 := (hb5.block (N + 1) (by omega)).trans hZ4
      obtain ⟨P2, hP2⟩ : ∃ Q : Nat → Prop, Q = fun k => P1 k ∨ (w4.heap.size ≤ k ∧ k < w5.heap.size) := ⟨_, rfl⟩
      have hW5 := hW4.out.with_ hb5
      rw [← hP2] at hW5
      have iP2 : ∀ k, P1 k → P2 k := fun k q => by rw [hP2]; exact .inl q
      have nP2 : ∀ k, w4.heap.size ≤ k → k < w5.heap.size → P2 k := fun k q1 q2 => by rw [hP2]; exact .inr ⟨q1, q2⟩
      have t5 : StrsP (fun k => P2 k ∧ k ≠ H ∧ k ≠ N + 1 ∧ k ≠ E) w5 (ad o5) R4 := strs_new hO5 hNR4 fun k q1 q2 => ⟨nP2 k q1 q2, by omega, by omega, by omega⟩
      have s5 := (hS4.below hb5).sub (Q := fun k => P2 k ∧ k ≠ H ∧ k ≠ N + 1 ∧ k ≠ E) fun k _ q => ⟨iP2 k q.1, q.2⟩
      have f5 := (hF4.below hb5).sub (Q := fun k => P2 k ∧ k ≠ H ∧ k ≠ N + 1 ∧ k ≠ E) fun k _ q => ⟨iP2 k q.1, q.2⟩
      have hH6 := set4_0 hH5 (.slice (ad o5) NR4 c5)
      have hZ6 := (Below.heap_setCell w5 ⟨H, 0, none⟩ (.slice (ad o5) NR4 c5) _ (show N + 1 ≠ H by omega)).trans hZ5
      have hW6 := hW5.set_ 0 (.slice (ad o5) NR4 c5) (iP2 H (hPN H (by omega) (by omega))) (show w0.heap.size ≤ H by omega)
      have t6 := t5.set_ (H := H) (fun k q => q.2.1) 0 (.slice (ad o5) NR4 c5)
      have s6 := s5.set_ (H := H) (fun k q => q.2.1) 0 (.slice (ad o5) NR4 c5)
      have f6 := f5.set_ (H := H) (fun k q => q.2.1) 0 (.slice (ad o5) NR4 c5)
      have k6 := (hk4.trans (Keep.of_below hb5)).set_ (H := H) (fun k q => by have := hPl k q; omega) 0 (.slice (ad o5) NR4 c5)
      generalize w5.setCell ⟨H, 0, none⟩ (.slice (ad o5) NR4 c5) = w6 at hH6 hZ6 hW6 t6 s6 f6 k6 ⊢
      have KD := Lib.hid (hW6.has.down (v := false) hdn)
      unfold dp at KD
      obtain ⟨y0, y1, y2, y3, yf⟩ := c4of hH6
      have yf1 := yf 1
      go_upto_region 28 with (first | (go_at_call 35; refine KD.out.mono ?_; rintro e _ ⟨rfl, rfl⟩) | fail)
      have hHb := set4_1 hH6 (.slice SA NS sc)
      have hZb := (Below.heap_setCell w6 ⟨H, 1, none⟩ (.slice SA NS sc) _ (show N + 1 ≠ H by omega)).trans hZ6
      have hWb := hW6.set_ 1 (.slice SA NS sc) (iP2 H (hPN H (by omega) (by omega))) (show w0.heap.size ≤ H by omega)
      have sAb := t6.set_ (H := H) (fun k q => q.2.1) 1 (.slice SA NS sc)
      have sSb := s6.set_ (H := H) (fun k q => q.2.1) 1 (.slice SA NS sc)
      have sFb := f6.set_ (H := H) (fun k q => q.2.1) 1 (.slice SA NS sc)
      have kb := k6.set_ (H := H) (fun k q => by have := hPl k q; omega) 1 (.slice SA NS sc)
      generalize w6.setCell ⟨H, 1, none⟩ (.slice SA NS sc) = wb at hHb hZb hWb sAb sSb sFb kb ⊢
      clear y0 y1 y2 y3 yf yf1 KD
      obtain ⟨x0, x1, x2, x3, xf⟩ := c4of hHb
      obtain ⟨z0, z1, z2, z3, zf⟩ := c4of hZb
      have zf0 := zf 0
      have zf1 := zf 1
      have zf2 := zf 2
      have zf3 := zf 3
      replace hWb := Lib.hid hWb
      replace kb := Lib.hid kb
      replace hZb := Lib.hid hZb
      refine Plan.wp_region_plan (fun wx => wx.cell? ⟨H, 0, none⟩ = wb.cell? ⟨H, 0, none⟩ ∧ wx.cell? ⟨H, 1, none⟩ = wb.cell? ⟨H, 1, none⟩ ∧ wx.cell? ⟨H, 2, none⟩ = wb.cell? ⟨H, 2, none⟩ ∧ wx.cell? ⟨H, 3, none⟩ = wb.cell? ⟨H, 3, none⟩) 3 [(0, true), (1, true), (2, true), (3, false)] (by kernel_rfl) (by kernel_rfl) ⟨rfl, rfl, rfl, rfl⟩ ?_
      (repeat (refine Plan.plan_read (v := ?_) rfl rfl ?_ ?_; rotate_left; (focus ((intro wS hSw; (try dsimp only at hSw); go_simp); try with_reducible rfl)); simp only [Act.put, List.setIfInBounds_toArray, List.set_cons_zero, List.set_cons_succ]))
      (refine Plan.plan_last rfl (fun K hK => ?_); go_simp; refine hK.out _ _ ?_; clear hK K; try simp only [Act.put, List.setIfInBounds_toArray, List.set_cons_zero, List.set_cons_succ])
      go_wp2_with fail
      obtain ⟨u0, u1, u2, u3⟩ := fin_cells hZb.out (.slice (ad o5) NR4 c5) (.slice SA NS sc) (.slice none 0 0) (.bool false)
      refine bodyPost_ret (v := .tuple #[.slice SA NS sc, .agg #[.slice (ad o5) NR4 c5, .slice SA NS sc, .slice none 0 0, .bool false]]) (by simp [results, Try.results37, go_sem, u0, u1, u2, u3]) rfl (after_end (Q := fun k => P2 k ∧ k ≠ H ∧ k ≠ N + 1 ∧ k ≠ E) (T := false) (Nat.le_refl _) hZb.out hWb.out kb.out (fun k q => by have := hPl k q; omega) (fun k q => q.2.2.1) (fun k q => q.1) (iP2 (N + 1) (hPN (N + 1) (by omega) (by omega))) (show w0.heap.size ≤ N + 1 by omega) (fun k q => iP2 k (hPP k q)) (fun k q => q.2.2.2) sSb sAb sFb (by simp [hNR, hNS, hNL, hNR4]) (by simp [hNR, hNS, hNL, hNR4]) (by simp [hNR, hNS, hNL]) (by omega) (by omega) (by omega) (Nat.zero_le _) (by obtain ⟨t, ht⟩ := hsf.out; exact .inl ⟨hdn, R0, X', t, hU4, hR4e, ht⟩))
    · have hl1 : (R4 ++ [s1]).length = NR + 1 := by rw [List.length_append, hNR]; rfl
      have hO4 : w4.ownsRow (N + 1 + 1) 9 1 (.slice (ad o2) NR c2) NR (strV R4) := row_heap hO3 fun k e => by rw [ad_block] at e; have := ho2 k e; exact k4.block k (by omega) (hPN k (by omega) (by omega))
      obtain ⟨i0, hi, hz0, hz1, hz2⟩ := info_parts (show (Try.prog.info? 9).map (fun i => (i.zero, i.size, i.bytes)) = some (some (.string ⟨#[]⟩), 1, 16) by kernel_rfl)
      obtain ⟨y0, y1, y2, y3, yf⟩ := c4of hH4
      have yf0 := yf 0
      obtain ⟨b0, b1, b2, b3, b4⟩ := c5of hA4
      have hrow := Lib.hid hO4
      have hne : some H ≠ o2 := fun e => by have := ho2 H e.symm; omega
      have hHl : H < w4.heap.size := by omega
      clear hO4 hO3
      replace hrows := Lib.hid hrows
      replace hW4 := Lib.hid hW4
      replace hR := Lib.hid hR.out
      go_upto_region 26 with (first | (at_builtin; refine wpList_append_any _ (by rfl) _ _ 22 (by rfl) (N + 1 + 1) 9 i0 _ 1 16 Try.underlying22 hi hz0 hz1 hz2 rfl (by decide) _ NR _ (by rfl) (hrow.out.alloc _) (_ + 1) (some ⟨w4.heap.size, 0, none⟩) 1 1 [.string (bs s1)] (by rfl) ⟨rfl, fun _ => ⟨_, rfl, Nat.lt_succ_self _, cells_at (by rfl) _ _⟩⟩ (fun u hu => by obtain rfl := List.mem_singleton.1 hu; rfl) (by unfold maxLen; omega) (by omega) (by simp; omega) ?_; intro v' w5 hO5 hG5 hob5; obtain ⟨o5, c5, hv5, _⟩ := ad_of_owns hO5; subst hv5; rw [ad_block, ad_block] at hob5; rw [ad_block] at hG5; have hG := Plan.grown_go (Plan.grown_alloc (grown_refl _ o2) _) hG5; have hH5 := (hG.block H hHl hne).trans hH4; obtain ⟨p0, p1, p2, p3, pf⟩ := c4of hH5; have pf0 := pf 0) | fail)
      clear p0 p1 p2 p3 pf pf0 y0 y1 y2 y3 yf yf0 b0 b1 b2 b3 b4
      have hZ5 := (hG.block (N + 1) (by omega) (fun e => by have := ho2 (N + 1) e.symm; omega)).trans hZ4
      obtain ⟨P2, hP2⟩ : ∃ Q : Nat → Prop, Q = fun k => P1 k ∨ (w4.heap.size ≤ k ∧ k < w5.heap.size) := ⟨_, rfl⟩
      have hW5 := hW4.out.poke_ hG fun k e => by have := ho2 k e; exact ⟨hPN k (by omega) (by omega), by omega⟩
      rw [← hP2] at hW5
      have iP2 : ∀ k, P1 k → P2 k := fun k q => by rw [hP2]; exact .inl q
      have k5 : Keep P w w5 := hk4.trans ⟨hG.size, fun k hk q => hG.block k hk fun e => by have := ho2 k e.symm; have := hPl k q; omega⟩
      have s5 : StrsP (fun k => P2 k ∧ k ≠ H ∧ k ≠ N + 1 ∧ k ≠ E) w5 SA sf := (hS.keep (k5.sub fun k q => q.1)).sub fun k _ q => ⟨iP2 k (hPP k q.1), by have := hPl k q.1; omega, by have := hPl k q.1; omega, q.2⟩
      have hP5 : ∀ k, o5 = some k → P2 k ∧ k ≠ H ∧ k ≠ N + 1 ∧ k ≠ E := by
        intro k q
        rcases hob5 with h | h
        · have := ho2 k (h.symm.trans q); exact ⟨iP2 k (hPN k (by omega) (by omega)), by omega, by omega, by omega⟩
        · have h2 := (hO5.lt k (by rw [ad_block]; exact q)).2
          rw [q] at h
          have hk : k = w4.heap.size + 1 := by simpa using h
          exact ⟨by rw [hP2]; exact .inr ⟨by omega, h2⟩, by omega, by omega, by omega⟩
      have t5 : StrsP (fun k => P2 k ∧ k ≠ H ∧ k ≠ N + 1 ∧ k ≠ E) w5 (ad o5) (R4 ++ [s1]) := strs_app (by rw [strV_snoc]; exact hO5) hl1 hP5
      have f5 := StrsP.nil (fun k => P2 k ∧ k ≠ H ∧ k ≠ N + 1 ∧ k ≠ E) w5 none
      have hH6 := set4_0 hH5 (.slice (ad o5) (NR + 1) c5)
      have hZ6 := (Below.heap_setCell w5 ⟨H, 0, none⟩ (.slice (ad o5) (NR + 1) c5) _ (show N + 1 ≠ H by omega)).trans hZ5
      have hW6 := hW5.set_ 0 (.slice (ad o5) (NR + 1) c5) (iP2 H (hPN H (by omega) (by omega))) (show w0.heap.size ≤ H by omega)
      have t6 := t5.set_ (H := H) (fun k q => q.2.1) 0 (.slice (ad o5) (NR + 1) c5)
      have s6 := s5.set_ (H := H) (fun k q => q.2.1) 0 (.slice (ad o5) (NR + 1) c5)
      have f6 := f5.set_ (H := H) (fun k q => q.2.1) 0 (.slice (ad o5) (NR + 1) c5)
      have k6 := k5.set_ (H := H) (fun k q => by have := hPl k q; omega) 0 (.slice (ad o5) (NR + 1) c5)
      generalize w5.setCell ⟨H, 0, none⟩ (.slice (ad o5) (NR + 1) c5) = w6 at hH6 hZ6 hW6 t6 s6 f6 k6 ⊢
      have KD := Lib.hid (hW6.has.down (v := true) hdn)
      unfold dp at KD
      obtain ⟨y0, y1, y2, y3, yf⟩ := c4of hH6
      have yf1 := yf 1
      go_upto_region 28 with (first | (go_at_call 35; refine KD.out.mono ?_; rintro e _ ⟨rfl, rfl⟩) | fail)
      have hHb := hH6
      have hZb := hZ6
      have hWb := hW6
      have sAb := t6
      have sSb := s6
      have sFb := f6
      have kb := k6
      obtain ⟨wb, hwb⟩ : ∃ W, W = w6 := ⟨_, rfl⟩
      rw [← hwb] at hHb hZb hWb sAb sSb sFb kb ⊢
      clear hwb
      clear y0 y1 y2 y3 yf yf1 KD
      obtain ⟨x0, x1, x2, x3, xf⟩ := c4of hHb
      obtain ⟨z0, z1, z2, z3, zf⟩ := c4of hZb
      have zf0 := zf 0
      have zf1 := zf 1
      have zf2 := zf 2
      have zf3 := zf 3
      replace hWb := Lib.hid hWb
      replace kb := Lib.hid kb
      replace hZb := Lib.hid hZb
      refine Plan.wp_region_plan (fun wx => wx.cell? ⟨H, 0, none⟩ = wb.cell? ⟨H, 0, none⟩ ∧ wx.cell? ⟨H, 1, none⟩ = wb.cell? ⟨H, 1, none⟩ ∧ wx.cell? ⟨H, 2, none⟩ = wb.cell? ⟨H, 2, none⟩ ∧ wx.cell? ⟨H, 3, none⟩ = wb.cell? ⟨H, 3, none⟩) 3 [(0, true), (1, true), (2, true), (3, false)] (by kernel_rfl) (by kernel_rfl) ⟨rfl, rfl, rfl, rfl⟩ ?_
      (repeat (refine Plan.plan_read (v := ?_) rfl rfl ?_ ?_; rotate_left; (focus ((intro wS hSw; (try dsimp only at hSw); go_simp); try with_reducible rfl)); simp only [Act.put, List.setIfInBounds_toArray, List.set_cons_zero, List.set_cons_succ]))
      (refine Plan.plan_last rfl (fun K hK => ?_); go_simp; refine hK.out _ _ ?_; clear hK K; try simp only [Act.put, List.setIfInBounds_toArray, List.set_cons_zero, List.set_cons_succ])
      go_wp2_with fail
      obtain ⟨u0, u1, u2, u3⟩ := fin_cells hZb.out (.slice (ad o5) (NR + 1) c5) (.slice SA NS sc) (.slice none 0 0) (.bool false)
      refine bodyPost_ret (v := .tuple #[.slice SA NS sc, .agg #[.slice (ad o5) (NR + 1) c5, .slice SA NS sc, .slice none 0 0, .bool false]]) (by simp [results, Try.results37, go_sem, u0, u1, u2, u3]) rfl (after_end (Q := fun k => P2 k ∧ k ≠ H ∧ k ≠ N + 1 ∧ k ≠ E) (T := false) (Nat.le_refl _) hZb.out hWb.out kb.out (fun k q => by have := hPl k q; omega) (fun k q => q.2.2.1) (fun k q => q.1) (iP2 (N + 1) (hPN (N + 1) (by omega) (by omega))) (show w0.heap.size ≤ N + 1 by omega) (fun k q => iP2 k (hPP k q)) (fun k q => q.2.2.2) sSb sAb sFb (by simp [hNR, hNS, hNL]) (by simp [hNR, hNS, hNL]) (by simp [hNR, hNS, hNL]) (by omega) (by omega) (by rw [hl1]; omega) (Nat.zero_le _) (by rw [hR.out]; exact aft_down hdn hok4 hcov4 hrows.out hsf.out))
  · subst hD
    obtain ⟨a0, a1, a2, a3, a4⟩ := c5of hA3
    obtain ⟨v, s4, R4, hv⟩ : ∃ v s4 R4, wappS s 2 R s1 = (v, s4, R4) := ⟨_, _, _, rfl⟩
    have hout := wapp_out hU.out hR.out s1 (by omega) hv
    have hlen := wapp_len hv
    obtain ⟨NR4, hNR4⟩ : ∃ m, R4.length = m := ⟨_, rfl⟩
    rw [hNR, hNR4] at hlen
    have KC := Lib.hid (wapp_any hW3 s1 (by omega) (by omega) (by omega) hv)
    unfold lp at KC
    replace hW3 := Lib.hid hW3
    clear hv
    go_upto_region 8 with (first | (go_at_call 19; refine KC.out.mono ?_; rintro e w4 ⟨rfl, hW4, k4⟩) | fail)
    clear KC
    have hH4 := (k4.block H (by omega) (hPN H (by omega) (by omega))).trans hH3
    have hZ4 := (k4.block (N + 1) (by omega) (hPN (N + 1) (by omega) (by omega))).trans hZ3
    have hS4 := hS3.keep (k4.sub fun k q => q.1)
    have hR4 := hR3.keep (k4.sub fun k q => q.1)
    have hk4 := hk3.trans (k4.sub hPP)
    have hz4 : H + 1 ≤ w4.heap.size := by have := k4.size; omega
    have hF4 := StrsP.nil (fun k => P1 k ∧ k ≠ H ∧ k ≠ N + 1 ∧ k ≠ E) w4 none
    have hA4 := (k4.block N (by omega) (hPN N (by omega) (by omega))).trans hA3
    rcases hout with ⟨hv9, X', hU4, hR4e⟩ | ⟨rfl, hok4, hcov4, hdn, rfl, j, hrows⟩
    · have q9 : (v == 9) = false := by simpa using hv9
      have hdn : s4.down = false := hU4.down
      have KL := Lib.hid (all_any hW4 (by omega))
      unfold lp StrsNew at KL
      rw [hNR4] at KL
      replace hW4 := Lib.hid hW4
      clear hv9
      go_upto_region 26 with (first | (go_at_call 25; refine KL.out.mono ?_; rintro e w5 ⟨hb5, o5, c5, rfl, hO5⟩; have hH5 := (hb5.block H (by omega)).trans hH4; obtain ⟨p0, p1, p2, p3, pf⟩ := c4of hH5; have pf0 := pf 0) | fail)
      clear KL p0 p1 p2 p3 pf pf0
      have hZ5 := (hb5.block (N + 1) (by omega)).trans hZ4
      obtain ⟨P2, hP2⟩ : ∃ Q : Nat → Prop, Q = fun k => P1 k ∨ (w4.heap.size ≤ k ∧ k < w5.heap.size) := ⟨_, rfl⟩
      have hW5 := hW4.out.with_ hb5
      rw [← hP2] at hW5
      have iP2 : ∀ k, P1 k → P2 k := fun k q => by rw [hP2]; exact .inl q
      have nP2 : ∀ k, w4.heap.size ≤ k → k < w5.heap.size → P2 k := fun k q1 q2 => by rw [hP2]; exact .inr ⟨q1, q2⟩
      have t5 : StrsP (fun k => P2 k ∧ k ≠ H ∧ k ≠ N + 1 ∧ k ≠ E) w5 (ad o5) R4 := strs_new hO5 hNR4 fun k q1 q2 => ⟨nP2 k q1 q2, by omega, by omega, by omega⟩
      have s5 := (hS4.below hb5).sub (Q := fun k => P2 k ∧ k ≠ H ∧ k ≠ N + 1 ∧ k ≠ E) fun k _ q => ⟨iP2 k q.1, q.2⟩
      have f5 := (hF4.below hb5).sub (Q := fun k => P2 k ∧ k ≠ H ∧ k ≠ N + 1 ∧ k ≠ E) fun k _ q => ⟨iP2 k q.1, q.2⟩
      have hH6 := set4_0 hH5 (.slice (ad o5) NR4 c5)
      have hZ6 := (Below.heap_setCell w5 ⟨H, 0, none⟩ (.slice (ad o5) NR4 c5) _ (show N + 1 ≠ H by omega)).trans hZ5
      have hW6 := hW5.set_ 0 (.slice (ad o5) NR4 c5) (iP2 H (hPN H (by omega) (by omega))) (show w0.heap.size ≤ H by omega)
      have t6 := t5.set_ (H := H) (fun k q => q.2.1) 0 (.slice (ad o5) NR4 c5)
      have s6 := s5.set_ (H := H) (fun k q => q.2.1) 0 (.slice (ad o5) NR4 c5)
      have f6 := f5.set_ (H := H) (fun k q => q.2.1) 0 (.slice (ad o5) NR4 c5)
      have k6 := (hk4.trans (Keep.of_below hb5)).set_ (H := H) (fun k q => by have := hPl k q; omega) 0 (.slice (ad o5) NR4 c5)
      generalize w5.setCell ⟨H, 0, none⟩ (.slice (ad o5) NR4 c5) = w6 at hH6 hZ6 hW6 t6 s6 f6 k6 ⊢
      have KD := Lib.hid (hW6.has.down (v := false) hdn)
      unfold dp at KD
      obtain ⟨y0, y1, y2, y3, yf⟩ := c4of hH6
      have yf1 := yf 1
      go_upto_region 28 with (first | (go_at_call 35; refine KD.out.mono ?_; rintro e _ ⟨rfl, rfl⟩) | fail)
      have hHb := set4_1 hH6 (.slice SA NS sc)
      have hZb := (Below.heap_setCell w6 ⟨H, 1, none⟩ (.slice SA NS sc) _ (show N + 1 ≠ H by omega)).trans hZ6
      have hWb := hW6.set_ 1 (.slice SA NS sc) (iP2 H (hPN H (by omega) (by omega))) (show w0.heap.size ≤ H by omega)
      have sAb := t6.set_ (H := H) (fun k q => q.2.1) 1 (.slice SA NS sc)
      have sSb := s6.set_ (H := H) (fun k q => q.2.1) 1 (.slice SA NS sc)
      have sFb := f6.set_ (H := H) (fun k q => q.2.1) 1 (.slice SA NS sc)
      have kb := k6.set_ (H := H) (fun k q => by have := hPl k q; omega) 1 (.slice SA NS sc)
      generalize w6.setCell ⟨H, 1, none⟩ (.slice SA NS sc) = wb at hHb hZb hWb sAb sSb sFb kb ⊢
      clear y0 y1 y2 y3 yf yf1 KD
      obtain ⟨x0, x1, x2, x3, xf⟩ := c4of hHb
      obtain ⟨z0, z1, z2, z3, zf⟩ := c4of hZb
      have zf0 := zf 0
      have zf1 := zf 1
      have zf2 := zf 2
      have zf3 := zf 3
      replace hWb := Lib.hid hWb
      replace kb := Lib.hid kb
      replace hZb := Lib.hid hZb
      refine Plan.wp_region_plan (fun wx => wx.cell? ⟨H, 0, none⟩ = wb.cell? ⟨H, 0, none⟩ ∧ wx.cell? ⟨H, 1, none⟩ = wb.cell? ⟨H, 1, none⟩ ∧ wx.cell? ⟨H, 2, none⟩ = wb.cell? ⟨H, 2, none⟩ ∧ wx.cell? ⟨H, 3, none⟩ = wb.cell? ⟨H, 3, none⟩) 3 [(0, true), (1, true), (2, true), (3, false)] (by kernel_rfl) (by kernel_rfl) ⟨rfl, rfl, rfl, rfl⟩ ?_
      (repeat (refine Plan.plan_read (v := ?_) rfl rfl ?_ ?_; rotate_left; (focus ((intro wS hSw; (try dsimp only at hSw); go_simp); try with_reducible rfl)); simp only [Act.put, List.setIfInBounds_toArray, List.set_cons_zero, List.set_cons_succ]))
      (refine Plan.plan_last rfl (fun K hK => ?_); go_simp; refine hK.out _ _ ?_; clear hK K; try simp only [Act.put, List.setIfInBounds_toArray, List.set_cons_zero, List.set_cons_succ])
      go_wp2_with fail
      obtain ⟨u0, u1, u2, u3⟩ := fin_cells hZb.out (.slice (ad o5) NR4 c5) (.slice SA NS sc) (.slice none 0 0) (.bool false)
      refine bodyPost_ret (v := .tuple #[.slice SA NS sc, .agg #[.slice (ad o5) NR4 c5, .slice SA NS sc, .slice none 0 0, .bool false]]) (by simp [results, Try.results37, go_sem, u0, u1, u2, u3]) rfl (after_end (Q := fun k => P2 k ∧ k ≠ H ∧ k ≠ N + 1 ∧ k ≠ E) (T := false) (Nat.le_refl _) hZb.out hWb.out kb.out (fun k q => by have := hPl k q; omega) (fun k q => q.2.2.1) (fun k q => q.1) (iP2 (N + 1) (hPN (N + 1) (by omega) (by omega))) (show w0.heap.size ≤ N + 1 by omega) (fun k q => iP2 k (hPP k q)) (fun k q => q.2.2.2) sSb sAb sFb (by simp [hNR, hNS, hNL, hNR4]) (by simp [hNR, hNS, hNL, hNR4]) (by simp [hNR, hNS, hNL]) (by omega) (by omega) (by omega) (Nat.zero_le _) (by obtain ⟨t, ht⟩ := hsf.out; exact .inl ⟨hdn, R0, X', t, hU4, hR4e, ht⟩))
    · have hl1 : (R4 ++ [s1]).length = NR + 1 := by rw [List.length_append, hNR]; rfl
      have hO4 : w4.ownsRow (N + 1 + 1) 9 1 (.slice (ad o2) NR c2) NR (strV R4) := row_heap hO3 fun k e => by rw [ad_block] at e; have := ho2 k e; exact k4.block k (by omega) (hPN k (by omega) (by omega))
      obtain ⟨i0, hi, hz0, hz1, hz2⟩ := info_parts (show (Try.prog.info? 9).map (fun i => (i.zero, i.size, i.bytes)) = some (some (.string ⟨#[]⟩), 1, 16) by kernel_rfl)
      obtain ⟨y0, y1, y2, y3, yf⟩ := c4of hH4
      have yf0 := yf 0
      obtain ⟨b0, b1, b2, b3, b4⟩ := c5of hA4
      have hrow := Lib.hid hO4
      have hne : some H ≠ o2 := fun e => by have := ho2 H e.symm; omega
      have hHl : H < w4.heap.size := by omega
      clear hO4 hO3
      replace hrows := Lib.hid hrows
      replace hW4 := Lib.hid hW4
      replace hR := Lib.hid hR.out
      go_upto_region 26 with (first | (at_builtin; refine wpList_append_any _ (by rfl) _ _ 22 (by rfl) (N + 1 + 1) 9 i0 _ 1 16 Try.underlying22 hi hz0 hz1 hz2 rfl (by decide) _ NR _ (by rfl) (hrow.out.alloc _) (_ + 1) (some ⟨w4.heap.size, 0, none⟩) 1 1 [.string (bs s1)] (by rfl) ⟨rfl, fun _ => ⟨_, rfl, Nat.lt_succ_self _, cells_at (by rfl) _ _⟩⟩ (fun u hu => by obtain rfl := List.mem_singleton.1 hu; rfl) (by unfold maxLen; omega) (by omega) (by simp; omega) ?_; intro v' w5 hO5 hG5 hob5; obtain ⟨o5, c5, hv5, _⟩ := ad_of_owns hO5; subst hv5; rw [ad_block, ad_block] at hob5; rw [ad_block] at hG5; have hG := Plan.grown_go (Plan.grown_alloc (grown_refl _ o2) _) hG5; have hH5 := (hG.block H hHl hne).trans hH4; obtain ⟨p0, p1, p2, p3, pf⟩ := c4of hH5; have pf0 := pf 0) | fail)
      clear p0 p1 p2 p3 pf pf0 y0 y1 y2 y3 yf yf0 b0 b1 b2 b3 b4
      have hZ5 := (hG.block (N + 1) (by omega) (fun e => by have := ho2 (N + 1) e.symm; omega)).trans hZ4
      obtain ⟨P2, hP2⟩ : ∃ Q : Nat → Prop, Q = fun k => P1 k ∨ (w4.heap.size ≤ k ∧ k < w5.heap.size) := ⟨_, rfl⟩
      have hW5 := hW4.out.poke_ hG fun k e => by have := ho2 k e; exact ⟨hPN k (by omega) (by omega), by omega⟩
      rw [← hP2] at hW5
      have iP2 : ∀ k, P1 k → P2 k := fun k q => by rw [hP2]; exact .inl q
      have k5 : Keep P w w5 := hk4.trans ⟨hG.size, fun k hk q => hG.block k hk fun e => by have := ho2 k e.symm; have := hPl k q; omega⟩
      have s5 : StrsP (fun k => P2 k ∧ k ≠ H ∧ k ≠ N + 1 ∧ k ≠ E) w5 SA sf := (hS.keep (k5.sub fun k q => q.1)).sub fun k _ q => ⟨iP2 k (hPP k q.1), by have := hPl k q.1; omega, by have := hPl k q.1; omega, q.2⟩
      have hP5 : ∀ k, o5 = some k → P2 k ∧ k ≠ H ∧ k ≠ N + 1 ∧ k ≠ E := by
        intro k q
        rcases hob5 with h | h
        · have := ho2 k (h.symm.trans q); exact ⟨iP2 k (hPN k (by omega) (by omega)), by omega, by omega, by omega⟩
        · have h2 := (hO5.lt k (by rw [ad_block]; exact q)).2
          rw [q] at h
          have hk : k = w4.heap.size + 1 := by simpa using h
          exact ⟨by rw [hP2]; exact .inr ⟨by omega, h2⟩, by omega, by omega, by omega⟩
      have t5 : StrsP (fun k => P2 k ∧ k ≠ H ∧ k ≠ N + 1 ∧ k ≠ E) w5 (ad o5) (R4 ++ [s1]) := strs_app (by rw [strV_snoc]; exact hO5) hl1 hP5
      have f5 := StrsP.nil (fun k => P2 k ∧ k ≠ H ∧ k ≠ N + 1 ∧ k ≠ E) w5 none
      have hH6 := set4_0 hH5 (.slice (ad o5) (NR + 1) c5)
      have hZ6 := (Below.heap_setCell w5 ⟨H, 0, none⟩ (.slice (ad o5) (NR + 1) c5) _ (show N + 1 ≠ H by omega)).trans hZ5
      have hW6 := hW5.set_ 0 (.slice (ad o5) (NR + 1) c5) (iP2 H (hPN H (by omega) (by omega))) (show w0.heap.size ≤ H by omega)
      have t6 := t5.set_ (H := H) (fun k q => q.2.1) 0 (.slice (ad o5) (NR + 1) c5)
      have s6 := s5.set_ (H := H) (fun k q => q.2.1) 0 (.slice (ad o5) (NR + 1) c5)
      have f6 := f5.set_ (H := H) (fun k q => q.2.1) 0 (.slice (ad o5) (NR + 1) c5)
      have k6 := k5.set_ (H := H) (fun k q => by have := hPl k q; omega) 0 (.slice (ad o5) (NR + 1) c5)
      generalize w5.setCell ⟨H, 0, none⟩ (.slice (ad o5) (NR + 1) c5) = w6 at hH6 hZ6 hW6 t6 s6 f6 k6 ⊢
      have KD := Lib.hid (hW6.has.down (v := true) hdn)
      unfold dp at KD
      obtain ⟨y0, y1, y2, y3, yf⟩ := c4of hH6
      have yf1 := yf 1
      go_upto_region 28 with (first | (go_at_call 35; refine KD.out.mono ?_; rintro e _ ⟨rfl, rfl⟩) | fail)
      have hHb := hH6
      have hZb := hZ6
      have hWb := hW6
      have sAb := t6
      have sSb := s6
      have sFb := f6
      have kb := k6
      obtain ⟨wb, hwb⟩ : ∃ W, W = w6 := ⟨_, rfl⟩
      rw [← hwb] at hHb hZb hWb sAb sSb sFb kb ⊢
      clear hwb
      clear y0 y1 y2 y3 yf yf1 KD
      obtain ⟨x0, x1, x2, x3, xf⟩ := c4of hHb
      obtain ⟨z0, z1, z2, z3, zf⟩ := c4of hZb
      have zf0 := zf 0
      have zf1 := zf 1
      have zf2 := zf 2
      have zf3 := zf 3
      replace hWb := Lib.hid hWb
      replace kb := Lib.hid kb
      replace hZb := Lib.hid hZb
      refine Plan.wp_region_plan (fun wx => wx.cell? ⟨H, 0, none⟩ = wb.cell? ⟨H, 0, none⟩ ∧ wx.cell? ⟨H, 1, none⟩ = wb.cell? ⟨H, 1, none⟩ ∧ wx.cell? ⟨H, 2, none⟩ = wb.cell? ⟨H, 2, none⟩ ∧ wx.cell? ⟨H, 3, none⟩ = wb.cell? ⟨H, 3, none⟩) 3 [(0, true), (1, true), (2, true), (3, false)] (by kernel_rfl) (by kernel_rfl) ⟨rfl, rfl, rfl, rfl⟩ ?_
      (repeat (refine Plan.plan_read (v := ?_) rfl rfl ?_ ?_; rotate_left; (focus ((intro wS hSw; (try dsimp only at hSw); go_simp); try with_reducible rfl)); simp only [Act.put, List.setIfInBounds_toArray, List.set_cons_zero, List.set_cons_succ]))
      (refine Plan.plan_last rfl (fun K hK => ?_); go_simp; refine hK.out _ _ ?_; clear hK K; try simp only [Act.put, List.setIfInBounds_toArray, List.set_cons_zero, List.set_cons_succ])
      go_wp2_with fail
      obtain ⟨u0, u1, u2, u3⟩ := fin_cells hZb.out (.slice (ad o5) (NR + 1) c5) (.slice SA NS sc) (.slice none 0 0) (.bool false)
      refine bodyPost_ret (v := .tuple #[.slice SA NS sc, .agg #[.slice (ad o5) (NR + 1) c5, .slice SA NS sc, .slice none 0 0, .bool false]]) (by simp [results, Try.results37, go_sem, u0, u1, u2, u3]) rfl (after_end (Q := fun k => P2 k ∧ k ≠ H ∧ k ≠ N + 1 ∧ k ≠ E) (T := false) (Nat.le_refl _) hZb.out hWb.out kb.out (fun k q => by have := hPl k q; omega) (fun k q => q.2.2.1) (fun k q => q.1) (iP2 (N + 1) (hPN (N + 1) (by omega) (by omega))) (show w0.heap.size ≤ N + 1 by omega) (fun k q => iP2 k (hPP k q)) (fun k q => q.2.2.2) sSb sAb sFb (by simp [hNR, hNS, hNL]) (by simp [hNR, hNS, hNL]) (by simp [hNR, hNS, hNL]) (by omega) (by omega) (by rw [hl1]; omega) (Nat.zero_le _) (by rw [hR.out]; exact aft_down hdn hok4 hcov4 hrows.out hsf.out))
  · subst hD
    obtain ⟨a0, a1, a2, a3, a4⟩ := c5of hA3
    obtain ⟨v, s4, R4, hv⟩ : ∃ v s4 R4, wappS s 2 R s1 = (v, s4, R4) := ⟨_, _, _, rfl⟩
    have hout := wapp_out hU.out hR.out s1 (by omega) hv
    have hlen := wapp_len hv
    obtain ⟨NR4, hNR4⟩ : ∃ m, R4.length = m := ⟨_, rfl⟩
    rw [hNR, hNR4] at hlen
    have KC := Lib.hid (wapp_any hW3 s1 (by omega) (by omega) (by omega) hv)
    unfold lp at KC
    replace hW3 := Lib.hid hW3
    clear hv
    go_upto_region 8 with (first | (go_at_call 19; refine KC.out.mono ?_; rintro e w4 ⟨rfl, hW4, k4⟩) | fail)
    clear KC
    have hH4 := (k4.block H (by omega) (hPN H (by omega) (by omega))).trans hH3
    have hZ4 := (k4.block (N + 1) (by omega) (hPN (N + 1) (by omega) (by omega))).trans hZ3
    have hS4 := hS3.keep (k4.sub fun k q => q.1)
    have hR4 := hR3.keep (k4.sub fun k q => q.1)
    have hk4 := hk3.trans (k4.sub hPP)
    have hz4 : H + 1 ≤ w4.heap.size := by have := k4.size; omega
    have hF4 := StrsP.nil (fun k => P1 k ∧ k ≠ H ∧ k ≠ N + 1 ∧ k ≠ E) w4 none
    have hA4 := (k4.block N (by omega) (hPN N (by omega) (by omega))).trans hA3
    rcases hout with ⟨hv9, X', hU4, hR4e⟩ | ⟨rfl, hok4, hcov4, hdn, rfl, j, hrows⟩
    · have q9 : (v == 9) = false := by simpa using hv9
      have hdn : s4.down = false := hU4.down
      have KL := Lib.hid (all_any hW4 (by omega))
      unfold lp StrsNew at KL
      rw [hNR4] at KL
      replace hW4 := Lib.hid hW4
      clear hv9
      go_upto_region 26 with (first | (go_at_call 25; refine KL.out.mono ?_; rintro e w5 ⟨hb5, o5, c5, rfl, hO5⟩; have hH5 := (hb5.block H (by omega)).trans hH4; obtain ⟨p0, p1, p2, p3, pf⟩ := c4of hH5; have pf0 := pf 0) | fail)
      clear KL p0 p1 p2 p3 pf pf0
      have hZ5 := (hb5.block (N + 1) (by omega)).trans hZ4
      obtain ⟨P2, hP2⟩ : ∃ Q : Nat → Prop, Q = fun k => P1 k ∨ (w4.heap.size ≤ k ∧ k < w5.heap.size) := ⟨_, rfl⟩
      have hW5 := hW4.out.with_ hb5
      rw [← hP2] at hW5
      have iP2 : ∀ k, P1 k → P2 k := fun k q => by rw [hP2]; exact .inl q
      have nP2 : ∀ k, w4.heap.size ≤ k → k < w5.heap.size → P2 k := fun k q1 q2 => by rw [hP2]; exact .inr ⟨q1, q2⟩
      have t5 : StrsP (fun k => P2 k ∧ k ≠ H ∧ k ≠ N + 1 ∧ k ≠ E) w5 (ad o5) R4 := strs_new hO5 hNR4 fun k q1 q2 => ⟨nP2 k q1 q2, by omega, by omega, by omega⟩
      have s5 := (hS4.below hb5).sub (Q := fun k => P2 k ∧ k ≠ H ∧ k ≠ N + 1 ∧ k ≠ E) fun k _ q => ⟨iP2 k q.1, q.2⟩
      have f5 := (hF4.below hb5).sub (Q := fun k => P2 k ∧ k ≠ H ∧ k ≠ N + 1 ∧ k ≠ E) fun k _ q => ⟨iP2 k q.1, q.2⟩
      have hH6 := set4_0 hH5 (.slice (ad o5) NR4 c5)
      have hZ6 := (Below.heap_setCell w5 ⟨H, 0, none⟩ (.slice (ad o5) NR4 c5) _ (show N + 1 ≠ H by omega)).trans hZ5
      have hW6 := hW5.set_ 0 (.slice (ad o5) NR4 c5) (iP2 H (hPN H (by omega) (by omega))) (show w0.heap.size ≤ H by omega)
      have t6 := t5.set_ (H := H) (fun k q => q.2.1) 0 (.slice (ad o5) NR4 c5)
      have s6 := s5.set_ (H := H) (fun k q => q.2.1) 0 (.slice (ad o5) NR4 c5)
      have f6 := f5.set_ (H := H) (fun k q => q.2.1) 0 (.slice (ad o5) NR4 c5)
      have k6 := (hk4.trans (Keep.of_below hb5)).set_ (H := H) (fun k q => by have := hPl k q; omega) 0 (.slice (ad o5) NR4 c5)
      generalize w5.setCell ⟨H, 0, none⟩ (.slice (ad o5) NR4 c5) = w6 at hH6 hZ6 hW6 t6 s6 f6 k6 ⊢
      have KD := Lib.hid (hW6.has.down (v := false) hdn)
      unfold dp at KD
      obtain ⟨y0, y1, y2, y3, yf⟩ := c4of hH6
      have yf1 := yf 1
      go_upto_region 28 with (first | (go_at_call 35; refine KD.out.mono ?_; rintro e _ ⟨rfl, rfl⟩) | fail)
      have hHb := set4_1 hH6 (.slice SA NS sc)
      have hZb := (Below.heap_setCell w6 ⟨H, 1, none⟩ (.slice SA NS sc) _ (show N + 1 ≠ H by omega)).trans hZ6
      have hWb := hW6.set_ 1 (.slice SA NS sc) (iP2 H (hPN H (by omega) (by omega))) (show w0.heap.size ≤ H by omega)
      have sAb := t6.set_ (H := H) (fun k q => q.2.1) 1 (.slice SA NS sc)
      have sSb := s6.set_ (H := H) (fun k q => q.2.1) 1 (.slice SA NS sc)
      have sFb := f6.set_ (H := H) (fun k q => q.2.1) 1 (.slice SA NS sc)
      have kb := k6.set_ (H := H) (fun k q => by have := hPl k q; omega) 1 (.slice SA NS sc)
      generalize w6.setCell ⟨H, 1, none⟩ (.slice SA NS sc) = wb at hHb hZb hWb sAb sSb sFb kb ⊢
      clear y0 y1 y2 y3 yf yf1 KD
      obtain ⟨x0, x1, x2, x3, xf⟩ := c4of hHb
      obtain ⟨z0, z1, z2, z3, zf⟩ := c4of hZb
      have zf0 := zf 0
      have zf1 := zf 1
      have zf2 := zf 2
      have zf3 := zf 3
      replace hWb := Lib.hid hWb
      replace kb := Lib.hid kb
      replace hZb := Lib.hid hZb
      refine Plan.wp_region_plan (fun wx => wx.cell? ⟨H, 0, none⟩ = wb.cell? ⟨H, 0, none⟩ ∧ wx.cell? ⟨H, 1, none⟩ = wb.cell? ⟨H, 1, none⟩ ∧ wx.cell? ⟨H, 2, none⟩ = wb.cell? ⟨H, 2, none⟩ ∧ wx.cell? ⟨H, 3, none⟩ = wb.cell? ⟨H, 3, none⟩) 3 [(0, true), (1, true), (2, true), (3, false)] (by kernel_rfl) (by kernel_rfl) ⟨rfl, rfl, rfl, rfl⟩ ?_
      (repeat (refine Plan.plan_read (v := ?_) rfl rfl ?_ ?_; rotate_left; (focus ((intro wS hSw; (try dsimp only at hSw); go_simp); try with_reducible rfl)); simp only [Act.put, List.setIfInBounds_toArray, List.set_cons_zero, List.set_cons_succ]))
      (refine Plan.plan_last rfl (fun K hK => ?_); go_simp; refine hK.out _ _ ?_; clear hK K; try simp only [Act.put, List.setIfInBounds_toArray, List.set_cons_zero, List.set_cons_succ])
      go_wp2_with fail
      obtain ⟨u0, u1, u2, u3⟩ := fin_cells hZb.out (.slice (ad o5) NR4 c5) (.slice SA NS sc) (.slice none 0 0) (.bool false)
      refine bodyPost_ret (v := .tuple #[.slice SA NS sc, .agg #[.slice (ad o5) NR4 c5, .slice SA NS sc, .slice none 0 0, .bool false]]) (by simp [results, Try.results37, go_sem, u0, u1, u2, u3]) rfl (after_end (Q := fun k => P2 k ∧ k ≠ H ∧ k ≠ N + 1 ∧ k ≠ E) (T := false) (Nat.le_refl _) hZb.out hWb.out kb.out (fun k q => by have := hPl k q; omega) (fun k q => q.2.2.1) (fun k q => q.1) (iP2 (N + 1) (hPN (N + 1) (by omega) (by omega))) (show w0.heap.size ≤ N + 1 by omega) (fun k q => iP2 k (hPP k q)) (fun k q => q.2.2.2) sSb sAb sFb (by simp [hNR, hNS, hNL, hNR4]) (by simp [hNR, hNS, hNL, hNR4]) (by simp [hNR, hNS, hNL]) (by omega) (by omega) (by omega) (Nat.zero_le _) (by obtain ⟨t, ht⟩ := hsf.out; exact .inl ⟨hdn, R0, X', t, hU4, hR4e, ht⟩))
    · have hl1 : (R4 ++ [s1]).length = NR + 1 := by rw [List.length_append, hNR]; rfl
      have hO4 : w4.ownsRow (N + 1 + 1) 9 1 (.slice (ad o2) NR c2) NR (strV R4) := row_heap hO3 fun k e => by rw [ad_block] at e; have := ho2 k e; exact k4.block k (by omega) (hPN k (by omega) (by omega))
      obtain ⟨i0, hi, hz0, hz1, hz2⟩ := info_parts (show (Try.prog.info? 9).map (fun i => (i.zero, i.size, i.bytes)) = some (some (.string ⟨#[]⟩), 1, 16) by kernel_rfl)
      obtain ⟨y0, y1, y2, y3, yf⟩ := c4of hH4
      have yf0 := yf 0
      obtain ⟨b0, b1, b2, b3, b4⟩ := c5of hA4
      have hrow := Lib.hid hO4
      have hne : some H ≠ o2 := fun e => by have := ho2 H e.symm; omega
      have hHl : H < w4.heap.size := by omega
      clear hO4 hO3
      replace hrows := Lib.hid hrows
      replace hW4 := Lib.hid hW4
      replace hR := Lib.hid hR.out
      go_upto_region 26 with (first | (at_builtin; refine wpList_append_any _ (by rfl) _ _ 22 (by rfl) (N + 1 + 1) 9 i0 _ 1 16 Try.underlying22 hi hz0 hz1 hz2 rfl (by decide) _ NR _ (by rfl) (hrow.out.alloc _) (_ + 1) (some ⟨w4.heap.size, 0, none⟩) 1 1 [.string (bs s1)] (by rfl) ⟨rfl, fun _ => ⟨_, rfl, Nat.lt_succ_self _, cells_at (by rfl) _ _⟩⟩ (fun u hu => by obtain rfl := List.mem_singleton.1 hu; rfl) (by unfold maxLen; omega) (by omega) (by simp; omega) ?_; intro v' w5 hO5 hG5 hob5; obtain ⟨o5, c5, hv5, _⟩ := ad_of_owns hO5; subst hv5; rw [ad_block, ad_block] at hob5; rw [ad_block] at hG5; have hG := Plan.grown_go (Plan.grown_alloc (grown_refl _ o2) _) hG5; have hH5 := (hG.block H hHl hne).trans hH4; obtain ⟨p0, p1, p2, p3, pf⟩ := c4of hH5; have pf0 := pf 0) | fail)
      clear p0 p1 p2 p3 pf pf0 y0 y1 y2 y3 yf yf0 b0 b1 b2 b3 b4
      have hZ5 := (hG.block (N + 1) (by omega) (fun e => by have := ho2 (N + 1) e.symm; omega)).trans hZ4
      obtain ⟨P2, hP2⟩ : ∃ Q : Nat → Prop, Q = fun k => P1 k ∨ (w4.heap.size ≤ k ∧ k < w5.heap.size) := ⟨_, rfl⟩
      have hW5 := hW4.out.poke_ hG fun k e => by have := ho2 k e; exact ⟨hPN k (by omega) (by omega), by omega⟩
      rw [← hP2] at hW5
      have iP2 : ∀ k, P1 k → P2 k := fun k q => by rw [hP2]; exact .inl q
      have k5 : Keep P w w5 := hk4.trans ⟨hG.size, fun k hk q => hG.block k hk fun e => by have := ho2 k e.symm; have := hPl k q; omega⟩
      have s5 : StrsP (fun k => P2 k ∧ k ≠ H ∧ k ≠ N + 1 ∧ k ≠ E) w5 SA sf := (hS.keep (k5.sub fun k q => q.1)).sub fun k _ q => ⟨iP2 k (hPP k q.1), by have := hPl k q.1; omega, by have := hPl k q.1; omega, q.2⟩
      have hP5 : ∀ k, o5 = some k → P2 k ∧ k ≠ H ∧ k ≠ N + 1 ∧ k ≠ E := by
        intro k q
        rcases hob5 with h | h
        · have := ho2 k (h.symm.trans q); exact ⟨iP2 k (hPN k (by omega) (by omega)), by omega, by omega, by omega⟩
        · have h2 := (hO5.lt k (by rw [ad_block]; exact q)).2
          rw [q] at h
          have hk : k = w4.heap.size + 1 := by simpa using h
          exact ⟨by rw [hP2]; exact .inr ⟨by omega, h2⟩, by omega, by omega, by omega⟩
      have t5 : StrsP (fun k => P2 k ∧ k ≠ H ∧ k ≠ N + 1 ∧ k ≠ E) w5 (ad o5) (R4 ++ [s1]) := strs_app (by rw [strV_snoc]; exact hO5) hl1 hP5
      have f5 := StrsP.nil (fun k => P2 k ∧ k ≠ H ∧ k ≠ N + 1 ∧ k ≠ E) w5 none
      have hH6 := set4_0 hH5 (.slice (ad o5) (NR + 1) c5)
      have hZ6 := (Below.heap_setCell w5 ⟨H, 0, none⟩ (.slice (ad o5) (NR + 1) c5) _ (show N + 1 ≠ H by omega)).trans hZ5
      have hW6 := hW5.set_ 0 (.slice (ad o5) (NR + 1) c5) (iP2 H (hPN H (by omega) (by omega))) (show w0.heap.size ≤ H by omega)
      have t6 := t5.set_ (H := H) (fun k q => q.2.1) 0 (.slice (ad o5) (NR + 1) c5)
      have s6 := s5.set_ (H := H) (fun k q => q.2.1) 0 (.slice (ad o5) (NR + 1) c5)
      have f6 := f5.set_ (H := H) (fun k q => q.2.1) 0 (.slice (ad o5) (NR + 1) c5)
      have k6 := k5.set_ (H := H) (fun k q => by have := hPl k q; omega) 0 (.slice (ad o5) (NR + 1) c5)
      generalize w5.setCell ⟨H, 0, none⟩ (.slice (ad o5) (NR + 1) c5) = w6 at hH6 hZ6 hW6 t6 s6 f6 k6 ⊢
      have KD := Lib.hid (hW6.has.down (v := true) hdn)
      unfold dp at KD
      obtain ⟨y0, y1, y2, y3, yf⟩ := c4of hH6
      have yf1 := yf 1
      go_upto_region 28 with (first | (go_at_call 35; refine KD.out.mono ?_; rintro e _ ⟨rfl, rfl⟩) | fail)
      have hHb := hH6
      have hZb := hZ6
      have hWb := hW6
      have sAb := t6
      have sSb := s6
      have sFb := f6
      have kb := k6
      obtain ⟨wb, hwb⟩ : ∃ W, W = w6 := ⟨_, rfl⟩
      rw [← hwb] at hHb hZb hWb sAb sSb sFb kb ⊢
      clear hwb
      clear y0 y1 y2 y3 yf yf1 KD
      obtain ⟨x0, x1, x2, x3, xf⟩ := c4of hHb
      obtain ⟨z0, z1, z2, z3, zf⟩ := c4of hZb
      have zf0 := zf 0
      have zf1 := zf 1
      have zf2 := zf 2
      have zf3 := zf 3
      replace hWb := Lib.hid hWb
      replace kb := Lib.hid kb
      replace hZb := Lib.hid hZb
      refine Plan.wp_region_plan (fun wx => wx.cell? ⟨H, 0, none⟩ = wb.cell? ⟨H, 0, none⟩ ∧ wx.cell? ⟨H, 1, none⟩ = wb.cell? ⟨H, 1, none⟩ ∧ wx.cell? ⟨H, 2, none⟩ = wb.cell? ⟨H, 2, none⟩ ∧ wx.cell? ⟨H, 3, none⟩ = wb.cell? ⟨H, 3, none⟩) 3 [(0, true), (1, true), (2, true), (3, false)] (by kernel_rfl) (by kernel_rfl) ⟨rfl, rfl, rfl, rfl⟩ ?_
      (repeat (refine Plan.plan_read (v := ?_) rfl rfl ?_ ?_; rotate_left; (focus ((intro wS hSw; (try dsimp only at hSw); go_simp); try with_reducible rfl)); simp only [Act.put, List.setIfInBounds_toArray, List.set_cons_zero, List.set_cons_succ]))
      (refine Plan.plan_last rfl (fun K hK => ?_); go_simp; refine hK.out _ _ ?_; clear hK K; try simp only [Act.put, List.setIfInBounds_toArray, List.set_cons_zero, List.set_cons_succ])
      go_wp2_with fail
      obtain ⟨u0, u1, u2, u3⟩ := fin_cells hZb.out (.slice (ad o5) (NR + 1) c5) (.slice SA NS sc) (.slice none 0 0) (.bool false)
      refine bodyPost_ret (v := .tuple #[.slice SA NS sc, .agg #[.slice (ad o5) (NR + 1) c5, .slice SA NS sc, .slice none 0 0, .bool false]]) (by simp [results, Try.results37, go_sem, u0, u1, u2, u3]) rfl (after_end (Q := fun k => P2 k ∧ k ≠ H ∧ k ≠ N + 1 ∧ k ≠ E) (T := false) (Nat.le_refl _) hZb.out hWb.out kb.out (fun k q => by have := hPl k q; omega) (fun k q => q.2.2.1) (fun k q => q.1) (iP2 (N + 1) (hPN (N + 1) (by omega) (by omega))) (show w0.heap.size ≤ N + 1 by omega) (fun k q => iP2 k (hPP k q)) (fun k q => q.2.2.2) sSb sAb sFb (by simp [hNR, hNS, hNL]) (by simp [hNR, hNS, hNL]) (by simp [hNR, hNS, hNL]) (by omega) (by omega) (by rw [hl1]; omega) (Nat.zero_le _) (by rw [hR.out]; exact aft_down hdn hok4 hcov4 hrows.out hsf.out))
  · subst hD
    obtain ⟨a0, a1, a2, a3, a4⟩ := c5of hA3
    obtain ⟨v, s4, hv⟩ : ∃ v s4, DK.flush s 2 = (v, s4) := ⟨_, _, rfl⟩
    have hout := flush2_out hU.out
    rw [hv] at hout
    have KC := Lib.hid (wflush_any hW3 (by omega) hv)
    unfold lp at KC
    replace hW3 := Lib.hid hW3
    clear hv
    go_upto_region 13 with (first | (go_at_call 22; refine KC.out.mono ?_; rintro e w4 ⟨rfl, hW4, k4⟩) | fail)
    clear KC
    have hH4 := (k4.block H (by omega) (hPN H (by omega) (by omega))).trans hH3
    have hZ4 := (k4.block (N + 1) (by omega) (hPN (N + 1) (by omega) (by omega))).trans hZ3
    have hS4 := hS3.keep (k4.sub fun k q => q.1)
    have hR4 := hR3.keep (k4.sub fun k q => q.1)
    have hk4 := hk3.trans (k4.sub hPP)
    have hz4 : H + 1 ≤ w4.heap.size := by have := k4.size; omega
    have hF4 := StrsP.nil (fun k => P1 k ∧ k ≠ H ∧ k ≠ N + 1 ∧ k ≠ E) w4 none
    rcases hout with ⟨h0, hU4⟩ | ⟨hv0, ⟨hv9, hU4⟩ | ⟨hv9, hok4, hcov4, hdn, j, hrows⟩⟩
    · have h0 : v = 0 := h0
      subst h0
      have hdn : s4.down = false := hU4.down
      have KL := Lib.hid (all_any hW4 (by omega))
      unfold lp StrsNew at KL
      rw [hNR] at KL
      replace hW4 := Lib.hid hW4
      go_upto_region 26 with (first | (go_at_call 25; refine KL.out.mono ?_; rintro e w5 ⟨hb5, o5, c5, rfl, hO5⟩) | fail)
      clear KL
      have hH5 := (hb5.block H (by omega)).trans hH4
      have hZ5 := (hb5.block (N + 1) (by omega)).trans hZ4
      obtain ⟨P2, hP2⟩ : ∃ Q : Nat → Prop, Q = fun k => P1 k ∨ (w4.heap.size ≤ k ∧ k < w5.heap.size) := ⟨_, rfl⟩
      have hW5 := hW4.out.with_ hb5
      rw [← hP2] at hW5
      have iP2 : ∀ k, P1 k → P2 k := fun k q => by rw [hP2]; exact .inl q
      have nP2 : ∀ k, w4.heap.size ≤ k → k < w5.heap.size → P2 k := fun k q1 q2 => by rw [hP2]; exact .inr ⟨q1, q2⟩
      have t5 : StrsP (fun k => P2 k ∧ k ≠ H ∧ k ≠ N + 1 ∧ k ≠ E) w5 (ad o5) R := strs_new hO5 hNR fun k q1 q2 => ⟨nP2 k q1 q2, by omega, by omega, by omega⟩
      have s5 := (hR4.below hb5).sub (Q := fun k => P2 k ∧ k ≠ H ∧ k ≠ N + 1 ∧ k ≠ E) fun k _ q => ⟨iP2 k q.1, q.2⟩
      have f5 := (hF4.below hb5).sub (Q := fun k => P2 k ∧ k ≠ H ∧ k ≠ N + 1 ∧ k ≠ E) fun k _ q => ⟨iP2 k q.1, q.2⟩
      have k5 := hk4.trans (Keep.of_below hb5)
      have KD := Lib.hid (hW5.has.down (v := false) hdn)
      unfold dp at KD
      obtain ⟨y0, y1, y2, y3, yf⟩ := c4of hH5
      have yf1 := yf 1
      go_upto_region 28 with (first | (go_at_call 35; refine KD.out.mono ?_; rintro e _ ⟨rfl, rfl⟩) | fail)
      have hHb := set4_1 hH5 (.slice (ad o5) NR c5)
      have hZb := (Below.heap_setCell w5 ⟨H, 1, none⟩ (.slice (ad o5) NR c5) _ (show N + 1 ≠ H by omega)).trans hZ5
      have hWb := hW5.set_ 1 (.slice (ad o5) NR c5) (iP2 H (hPN H (by omega) (by omega))) (show w0.heap.size ≤ H by omega)
      have sAb := s5.set_ (H := H) (fun k q => q.2.1) 1 (.slice (ad o5) NR c5)
      have sSb := t5.set_ (H := H) (fun k q => q.2.1) 1 (.slice (ad o5) NR c5)
      have sFb := f5.set_ (H := H) (fun k q => q.2.1) 1 (.slice (ad o5) NR c5)
      have kb := k5.set_ (H := H) (fun k q => by have := hPl k q; omega) 1 (.slice (ad o5) NR c5)
      generalize w5.setCell ⟨H, 1, none⟩ (.slice (ad o5) NR c5) = wb at hHb hZb hWb sAb sSb sFb kb ⊢
      clear y0 y1 y2 y3 yf yf1 KD
      obtain ⟨x0, x1, x2, x3, xf⟩ := c4of hHb
      obtain ⟨z0, z1, z2, z3, zf⟩ := c4of hZb
      have zf0 := zf 0
      have zf1 := zf 1
      have zf2 := zf 2
      have zf3 := zf 3
      replace hWb := Lib.hid hWb
      replace kb := Lib.hid kb
      replace hZb := Lib.hid hZb
      refine Plan.wp_region_plan (fun wx => wx.cell? ⟨H, 0, none⟩ = wb.cell? ⟨H, 0, none⟩ ∧ wx.cell? ⟨H, 1, none⟩ = wb.cell? ⟨H, 1, none⟩ ∧ wx.cell? ⟨H, 2, none⟩ = wb.cell? ⟨H, 2, none⟩ ∧ wx.cell? ⟨H, 3, none⟩ = wb.cell? ⟨H, 3, none⟩) 3 [(0, true), (1, true), (2, true), (3, false)] (by kernel_rfl) (by kernel_rfl) ⟨rfl, rfl, rfl, rfl⟩ ?_
      (repeat (refine Plan.plan_read (v := ?_) rfl rfl ?_ ?_; rotate_left; (focus ((intro wS hSw; (try dsimp only at hSw); go_simp); try with_reducible rfl)); simp only [Act.put, List.setIfInBounds_toArray, List.set_cons_zero, List.set_cons_succ]))
      (refine Plan.plan_last rfl (fun K hK => ?_); go_simp; refine hK.out _ _ ?_; clear hK K; try simp only [Act.put, List.setIfInBounds_toArray, List.set_cons_zero, List.set_cons_succ])
      go_wp2_with fail
      obtain ⟨u0, u1, u2, u3⟩ := fin_cells hZb.out (.slice (ad o2) NR c2) (.slice (ad o5) NR c5) (.slice none 0 0) (.bool false)
      refine bodyPost_ret (v := .tuple #[.slice (ad o5) NR c5, .agg #[.slice (ad o2) NR c2, .slice (ad o5) NR c5, .slice none 0 0, .bool false]]) (by simp [results, Try.results37, go_sem, u0, u1, u2, u3]) rfl (after_end (Q := fun k => P2 k ∧ k ≠ H ∧ k ≠ N + 1 ∧ k ≠ E) (T := false) (Nat.le_succ _) hZb.out hWb.out kb.out (fun k q => by have := hPl k q; omega) (fun k q => q.2.2.1) (fun k q => q.1) (iP2 (N + 1) (hPN (N + 1) (by omega) (by omega))) (show w0.heap.size ≤ N + 1 by omega) (fun k q => iP2 k (hPP k q)) (fun k q => q.2.2.2) sSb sAb sFb (by simp [hNR, hNS, hNL]) (by simp [hNR, hNS, hNL]) (by simp [hNR, hNS, hNL]) (by omega) (by omega) (by omega) (Nat.zero_le _) (by exact .inl ⟨hdn, R, [], [], by rw [hR.out]; exact hU4, by simp, by simp⟩))
    · have q0 : (v == 0) = false := by simpa using hv0
      have hdn : s4.down = false := hU4.down
      replace hW4 := Lib.hid hW4
      clear hv0 hv9
      go_upto_region 26 with fail
      have KD := Lib.hid (hW4.out.has.down (v := false) hdn)
      unfold dp at KD
      obtain ⟨y0, y1, y2, y3, yf⟩ := c4of hH4
      have yf1 := yf 1
      go_upto_region 28 with (first | (go_at_call 35; refine KD.out.mono ?_; rintro e _ ⟨rfl, rfl⟩) | fail)
      have hHb := set4_1 hH4 (.slice SA NS sc)
      have hZb := (Below.heap_setCell w4 ⟨H, 1, none⟩ (.slice SA NS sc) _ (show N + 1 ≠ H by omega)).trans hZ4
      have hWb := hW4.out.set_ 1 (.slice SA NS sc) (hPN H (by omega) (by omega)) (show w0.heap.size ≤ H by omega)
      have sAb := hR4.set_ (H := H) (fun k q => q.2.1) 1 (.slice SA NS sc)
      have sSb := hS4.set_ (H := H) (fun k q => q.2.1) 1 (.slice SA NS sc)
      have sFb := hF4.set_ (H := H) (fun k q => q.2.1) 1 (.slice SA NS sc)
      have kb := hk4.set_ (H := H) (fun k q => by have := hPl k q; omega) 1 (.slice SA NS sc)
      generalize w4.setCell ⟨H, 1, none⟩ (.slice SA NS sc) = wb at hHb hZb hWb sAb sSb sFb kb ⊢
      clear y0 y1 y2 y3 yf yf1 KD
      obtain ⟨x0, x1, x2, x3, xf⟩ := c4of hHb
      obtain ⟨z0, z1, z2, z3, zf⟩ := c4of hZb
      have zf0 := zf 0
      have zf1 := zf 1
      have zf2 := zf 2
      have zf3 := zf 3
      replace hWb := Lib.hid hWb
      replace kb := Lib.hid kb
      replace hZb := Lib.hid hZb
      refine Plan.wp_region_plan (fun wx => wx.cell? ⟨H, 0, none⟩ = wb.cell? ⟨H, 0, none⟩ ∧ wx.cell? ⟨H, 1, none⟩ = wb.cell? ⟨H, 1, none⟩ ∧ wx.cell? ⟨H, 2, none⟩ = wb.cell? ⟨H, 2, none⟩ ∧ wx.cell? ⟨H, 3, none⟩ = wb.cell? ⟨H, 3, none⟩) 3 [(0, true), (1, true), (2, true), (3, false)] (by kernel_rfl) (by kernel_rfl) ⟨rfl, rfl, rfl, rfl⟩ ?_
      (repeat (refine Plan.plan_read (v := ?_) rfl rfl ?_ ?_; rotate_left; (focus ((intro wS hSw; (try dsimp only at hSw); go_simp); try with_reducible rfl)); simp only [Act.put, List.setIfInBounds_toArray, List.set_cons_zero, List.set_cons_succ]))
      (refine Plan.plan_last rfl (fun K hK => ?_); go_simp; refine hK.out _ _ ?_; clear hK K; try simp only [Act.put, List.setIfInBounds_toArray, List.set_cons_zero, List.set_cons_succ])
      go_wp2_with fail
      obtain ⟨u0, u1, u2, u3⟩ := fin_cells hZb.out (.slice (ad o2) NR c2) (.slice SA NS sc) (.slice none 0 0) (.bool false)
      refine bodyPost_ret (v := .tuple #[.slice SA NS sc, .agg #[.slice (ad o2) NR c2, .slice SA NS sc, .slice none 0 0, .bool false]]) (by simp [results, Try.results37, go_sem, u0, u1, u2, u3]) rfl (after_end (Q := fun k => P1 k ∧ k ≠ H ∧ k ≠ N + 1 ∧ k ≠ E) (T := false) (Nat.le_succ _) hZb.out hWb.out kb.out (fun k q => by have := hPl k q; omega) (fun k q => q.2.2.1) (fun k q => q.1) (hPN (N + 1) (by omega) (by omega)) (show w0.heap.size ≤ N + 1 by omega) (hPP) (fun k q => q.2.2.2) sSb sAb sFb (by simp [hNR, hNS, hNL]) (by simp [hNR, hNS, hNL]) (by simp [hNR, hNS, hNL]) (by omega) (by omega) (by omega) (Nat.zero_le _) (by obtain ⟨t, ht⟩ := hsf.out; exact .inl ⟨hdn, R0, X, t, hU4, hR.out, ht⟩))
    · have h9 : v = 9 := hv9
      subst h9
      have hdn : s4.down = true := hdn
      replace hW4 := Lib.hid hW4
      replace hrows := Lib.hid hrows
      clear hv0 hv9
      go_upto_region 26 with fail
      have KD := Lib.hid (hW4.out.has.down (v := true) hdn)
      unfold dp at KD
      obtain ⟨y0, y1, y2, y3, yf⟩ := c4of hH4
      have yf1 := yf 1
      go_upto_region 28 with (first | (go_at_call 35; refine KD.out.mono ?_; rintro e _ ⟨rfl, rfl⟩) | fail)
      have hHb := hH4
      have hZb := hZ4
      have hWb := hW4.out
      have sAb := hR4
      have sSb := hS4
      have sFb := hF4
      have kb := hk4
      obtain ⟨wb, hwb⟩ : ∃ W, W = w4 := ⟨_, rfl⟩
      rw [← hwb] at hHb hZb hWb sAb sSb sFb kb ⊢
      clear hwb
      clear y0 y1 y2 y3 yf yf1 KD
      obtain ⟨x0, x1, x2, x3, xf⟩ := c4of hHb
      obtain ⟨z0, z1, z2, z3, zf⟩ := c4of hZb
      have zf0 := zf 0
      have zf1 := zf 1
      have zf2 := zf 2
      have zf3 := zf 3
      replace hWb := Lib.hid hWb
      replace kb := Lib.hid kb
      replace hZb := Lib.hid hZb
      refine Plan.wp_region_plan (fun wx => wx.cell? ⟨H, 0, none⟩ = wb.cell? ⟨H, 0, none⟩ ∧ wx.cell? ⟨H, 1, none⟩ = wb.cell? ⟨H, 1, none⟩ ∧ wx.cell? ⟨H, 2, none⟩ = wb.cell? ⟨H, 2, none⟩ ∧ wx.cell? ⟨H, 3, none⟩ = wb.cell? ⟨H, 3, none⟩) 3 [(0, true), (1, true), (2, true), (3, false)] (by kernel_rfl) (by kernel_rfl) ⟨rfl, rfl, rfl, rfl⟩ ?_
      (repeat (refine Plan.plan_read (v := ?_) rfl rfl ?_ ?_; rotate_left; (focus ((intro wS hSw; (try dsimp only at hSw); go_simp); try with_reducible rfl)); simp only [Act.put, List.setIfInBounds_toArray, List.set_cons_zero, List.set_cons_succ]))
      (refine Plan.plan_last rfl (fun K hK => ?_); go_simp; refine hK.out _ _ ?_; clear hK K; try simp only [Act.put, List.setIfInBounds_toArray, List.set_cons_zero, List.set_cons_succ])
      go_wp2_with fail
      obtain ⟨u0, u1, u2, u3⟩ := fin_cells hZb.out (.slice (ad o2) NR c2) (.slice SA NS sc) (.slice none 0 0) (.bool false)
      refine bodyPost_ret (v := .tuple #[.slice SA NS sc, .agg #[.slice (ad o2) NR c2, .slice SA NS sc, .slice none 0 0, .bool false]]) (by simp [results, Try.results37, go_sem, u0, u1, u2, u3]) rfl (after_end (Q := fun k => P1 k ∧ k ≠ H ∧ k ≠ N + 1 ∧ k ≠ E) (T := false) (Nat.le_succ _) hZb.out hWb.out kb.out (fun k q => by have := hPl k q; omega) (fun k q => q.2.2.1) (fun k q => q.1) (hPN (N + 1) (by omega) (by omega)) (show w0.heap.size ≤ N + 1 by omega) (hPP) (fun k q => q.2.2.2) sSb sAb sFb (by simp [hNR, hNS, hNL]) (by simp [hNR, hNS, hNL]) (by simp [hNR, hNS, hNL]) (by omega) (by omega) (by omega) (Nat.zero_le _) (by rw [hR.out]; exact aft_down0 hdn hok4 hcov4 hrows.out hsf.out))
  · subst hD
    obtain ⟨a0, a1, a2, a3, a4⟩ := c5of hA3
    obtain ⟨v, s4, R4, hv⟩ : ∃ v s4 R4, wrewS s 2 R L = (v, s4, R4) := ⟨_, _, _, rfl⟩
    have hout := wrew_out hU.out (fun x hx => by have := ha1.out x hx; omega) hv
    have hL3 : StrsP (fun k => P1 k ∧ k ≠ H ∧ k ≠ N + 1 ∧ k ≠ E) w3 LA L := StrsP.of_at (hL.below hW3.below) hW3.below.size fun k q => ⟨hPP k (hP0 k q), by omega, by omega, by omega⟩
    have KC := Lib.hid (wrew_any (c := Lc) hW3 (by omega) LA (hL3.sub fun k _ q => q.1) (fun x hx => by have := ha1.out x hx; omega) (Nat.le_trans (recs_few L (by omega) ha1.out) (by omega)) (by omega) hv)
    rw [hNL] at KC
    unfold lp at KC
    replace hW3 := Lib.hid hW3
    clear hv
    go_upto_region 17 with (first | (go_at_call 18; refine KC.out.mono ?_; rintro e w4 ⟨rfl, hW4, k4⟩) | fail)
    clear KC a0 a1 a2 a3 a4
    have hH4 := (k4.block H (by omega) (hPN H (by omega) (by omega))).trans hH3
    have hZ4 := (k4.block (N + 1) (by omega) (hPN (N + 1) (by omega) (by omega))).trans hZ3
    have hS4 := hS3.keep (k4.sub fun k q => q.1)
    have hR4 := hR3.keep (k4.sub fun k q => q.1)
    have hk4 := hk3.trans (k4.sub hPP)
    have hz4 : H + 1 ≤ w4.heap.size := by have := k4.size; omega
    have hF4 := StrsP.nil (fun k => P1 k ∧ k ≠ H ∧ k ≠ N + 1 ∧ k ≠ E) w4 none
    have hL4 := hL3.keep (k4.sub fun k q => q.1)
    have hA4 := (k4.block N (by omega) (hPN N (by omega) (by omega))).trans hA3
    obtain ⟨b0, b1, b2, b3, b4⟩ := c5of hA4
    obtain ⟨y0, y1, y2, y3, yf⟩ := c4of hH4
    have yf2 := yf 2
    have yf3 := yf 3
    replace hW4 := Lib.hid hW4
    rcases hout with ⟨h0, hR4e, hU4⟩ | ⟨hv0, hR4e, ⟨hv9, hU4⟩ | ⟨hv9, hok4, hcov4, hdn, j, hrows⟩⟩
    · have h0 : v = 0 := h0
      subst h0
      subst hR4e
      have hdn : s4.down = false := hU4.down
      go_upto_region 20 with fail
      clear b0 b1 b2 b3 b4 y0 y1 y2 y3 yf yf2 yf3
      have hH5 := set4_3 (set4_2 hH4 (.slice LA NL Lc)) (.bool false)
      have hZ5 := (Below.heap_setCell (w4.setCell ⟨H, 2, none⟩ (.slice LA NL Lc)) ⟨H, 3, none⟩ (.bool false) _ (show N + 1 ≠ H by omega)).trans ((Below.heap_setCell w4 ⟨H, 2, none⟩ (.slice LA NL Lc) _ (show N + 1 ≠ H by omega)).trans hZ4)
      have hW5 := (hW4.out.set_ 2 (.slice LA NL Lc) (hPN H (by omega) (by omega)) (show w0.heap.size ≤ H by omega)).set_ 3 (.bool false) (hPN H (by omega) (by omega)) (show w0.heap.size ≤ H by omega)
      have r5 := (hR4.set_ (H := H) (fun k q => q.2.1) 2 (.slice LA NL Lc)).set_ (H := H) (fun k q => q.2.1) 3 (.bool false)
      have s5 := (hS4.set_ (H := H) (fun k q => q.2.1) 2 (.slice LA NL Lc)).set_ (H := H) (fun k q => q.2.1) 3 (.bool false)
      have l5 := (hL4.set_ (H := H) (fun k q => q.2.1) 2 (.slice LA NL Lc)).set_ (H := H) (fun k q => q.2.1) 3 (.bool false)
      have k5 := (hk4.set_ (H := H) (fun k q => by have := hPl k q; omega) 2 (.slice LA NL Lc)).set_ (H := H) (fun k q => by have := hPl k q; omega) 3 (.bool false)
      have hz5 : H + 1 ≤ ((w4.setCell ⟨H, 2, none⟩ (.slice LA NL Lc)).setCell ⟨H, 3, none⟩ (.bool false)).heap.size := by simp; omega
      generalize (w4.setCell ⟨H, 2, none⟩ (.slice LA NL Lc)).setCell ⟨H, 3, none⟩ (.bool false) = w5 at hH5 hZ5 hW5 r5 s5 l5 k5 hz5 ⊢
      have KL := Lib.hid (all_any hW5 (by omega))
      unfold lp StrsNew at KL
      rw [hNL] at KL
      replace hW5 := Lib.hid hW5
      go_upto_region 21 with (first | (go_at_call 25; refine KL.out.mono ?_; rintro e w6 ⟨hb6, o6, c6, rfl, hO6⟩) | fail)
      clear KL
      have hH6 := (hb6.block H (by omega)).trans hH5
      have hZ6 := (hb6.block (N + 1) (by omega)).trans hZ5
      obtain ⟨P2, hP2⟩ : ∃ Q : Nat → Prop, Q = fun k => P1 k ∨ (w5.heap.size ≤ k ∧ k < w6.heap.size) := ⟨_, rfl⟩
      have hW6 := hW5.out.with_ hb6
      rw [← hP2] at hW6
      have iP2 : ∀ k, P1 k → P2 k := fun k q => by rw [hP2]; exact .inl q
      have nP2 : ∀ k, w5.heap.size ≤ k → k < w6.heap.size → P2 k := fun k q1 q2 => by rw [hP2]; exact .inr ⟨q1, q2⟩
      have t6 : StrsP (fun k => P2 k ∧ k ≠ H ∧ k ≠ N + 1 ∧ k ≠ E) w6 (ad o6) R4 := strs_new hO6 hNL fun k q1 q2 => ⟨nP2 k q1 q2, by omega, by omega, by omega⟩
      have r6 := (r5.below hb6).sub (Q := fun k => P2 k ∧ k ≠ H ∧ k ≠ N + 1 ∧ k ≠ E) fun k _ q => ⟨iP2 k q.1, q.2⟩
      have s6 := (s5.below hb6).sub (Q := fun k => P2 k ∧ k ≠ H ∧ k ≠ N + 1 ∧ k ≠ E) fun k _ q => ⟨iP2 k q.1, q.2⟩
      have l6 := (l5.below hb6).sub (Q := fun k => P2 k ∧ k ≠ H ∧ k ≠ N + 1 ∧ k ≠ E) fun k _ q => ⟨iP2 k q.1, q.2⟩
      have hz6 : H + 1 ≤ w6.heap.size := Nat.le_trans hz5 hb6.size
      have k6 := k5.trans (Keep.of_below hb6)
      have KL := Lib.hid (all_any hW6 (by omega))
      unfold lp StrsNew at KL
      rw [hNL] at KL
      replace hW6 := Lib.hid hW6
      go_upto_region 26 with (first | (go_at_call 25; refine KL.out.mono ?_; rintro e w7 ⟨hb7, o7, c7, rfl, hO7⟩; have hH7 := (hb7.block H (by omega)).trans hH6; obtain ⟨p0, p1, p2, p3, pf⟩ := c4of hH7; have pf0 := pf 0) | fail)
      clear KL p0 p1 p2 p3 pf pf0
      have hZ7 := (hb7.block (N + 1) (by omega)).trans hZ6
      obtain ⟨P3, hP3⟩ : ∃ Q : Nat → Prop, Q = fun k => P2 k ∨ (w6.heap.size ≤ k ∧ k < w7.heap.size) := ⟨_, rfl⟩
      have hW7 := hW6.out.with_ hb7
      rw [← hP3] at hW7
      have iP3 : ∀ k, P2 k → P3 k := fun k q => by rw [hP3]; exact .inl q
      have nP3 : ∀ k, w6.heap.size ≤ k → k < w7.heap.size → P3 k := fun k q1 q2 => by rw [hP3]; exact .inr ⟨q1, q2⟩
      have t7 : StrsP (fun k => P3 k ∧ k ≠ H ∧ k ≠ N + 1 ∧ k ≠ E) w7 (ad o7) R4 := strs_new hO7 hNL fun k q1 q2 => ⟨nP3 k q1 q2, by omega, by omega, by omega⟩
      have t67 := (t6.below hb7).sub (Q := fun k => P3 k ∧ k ≠ H ∧ k ≠ N + 1 ∧ k ≠ E) fun k _ q => ⟨iP3 k q.1, q.2⟩
      have r7 := (r6.below hb7).sub (Q := fun k => P3 k ∧ k ≠ H ∧ k ≠ N + 1 ∧ k ≠ E) fun k _ q => ⟨iP3 k q.1, q.2⟩
      have s7 := (s6.below hb7).sub (Q := fun k => P3 k ∧ k ≠ H ∧ k ≠ N + 1 ∧ k ≠ E) fun k _ q => ⟨iP3 k q.1, q.2⟩
      have l7 := (l6.below hb7).sub (Q := fun k => P3 k ∧ k ≠ H ∧ k ≠ N + 1 ∧ k ≠ E) fun k _ q => ⟨iP3 k q.1, q.2⟩
      have k7 := k6.trans (Keep.of_below hb7)
      have hH8 := set4_0 hH7 (.slice (ad o7) NL c7)
      have hZ8 := (Below.heap_setCell w7 ⟨H, 0, none⟩ (.slice (ad o7) NL c7) _ (show N + 1 ≠ H by omega)).trans hZ7
      have hW8 := hW7.set_ 0 (.slice (ad o7) NL c7) (iP3 H (iP2 H (hPN H (by omega) (by omega)))) (show w0.heap.size ≤ H by omega)
      have t8 := t7.set_ (H := H) (fun k q => q.2.1) 0 (.slice (ad o7) NL c7)
      have t68 := t67.set_ (H := H) (fun k q => q.2.1) 0 (.slice (ad o7) NL c7)
      have l8 := l7.set_ (H := H) (fun k q => q.2.1) 0 (.slice (ad o7) NL c7)
      have k8 := k7.set_ (H := H) (fun k q => by have := hPl k q; omega) 0 (.slice (ad o7) NL c7)
      generalize w7.setCell ⟨H, 0, none⟩ (.slice (ad o7) NL c7) = w8 at hH8 hZ8 hW8 t8 t68 l8 k8 ⊢
      have KD := Lib.hid (hW8.has.down (v := false) hdn)
      unfold dp at KD
      obtain ⟨y0, y1, y2, y3, yf⟩ := c4of hH8
      have yf1 := yf 1
      go_upto_region 28 with (first | (go_at_call 35; refine KD.out.mono ?_; rintro e _ ⟨rfl, rfl⟩) | fail)
      have hHb := set4_1 hH8 (.slice (ad o6) NL c6)
      have hZb := (Below.heap_setCell w8 ⟨H, 1, none⟩ (.slice (ad o6) NL c6) _ (show N + 1 ≠ H by omega)).trans hZ8
      have hWb := hW8.set_ 1 (.slice (ad o6) NL c6) (iP3 H (iP2 H (hPN H (by omega) (by omega)))) (show w0.heap.size ≤ H by omega)
      have sAb := t8.set_ (H := H) (fun k q => q.2.1) 1 (.slice (ad o6) NL c6)
      have sSb := t68.set_ (H := H) (fun k q => q.2.1) 1 (.slice (ad o6) NL c6)
      have sFb := l8.set_ (H := H) (fun k q => q.2.1) 1 (.slice (ad o6) NL c6)
      have kb := k8.set_ (H := H) (fun k q => by have := hPl k q; omega) 1 (.slice (ad o6) NL c6)
      generalize w8.setCell ⟨H, 1, none⟩ (.slice (ad o6) NL c6) = wb at hHb hZb hWb sAb sSb sFb kb ⊢
      clear y0 y1 y2 y3 yf yf1 KD
      obtain ⟨x0, x1, x2, x3, xf⟩ := c4of hHb
      obtain ⟨z0, z1, z2, z3, zf⟩ := c4of hZb
      have zf0 := zf 0
      have zf1 := zf 1
      have zf2 := zf 2
      have zf3 := zf 3
      replace hWb := Lib.hid hWb
      replace kb := Lib.hid kb
      replace hZb := Lib.hid hZb
      refine Plan.wp_region_plan (fun wx => wx.cell? ⟨H, 0, none⟩ = wb.cell? ⟨H, 0, none⟩ ∧ wx.cell? ⟨H, 1, none⟩ = wb.cell? ⟨H, 1, none⟩ ∧ wx.cell? ⟨H, 2, none⟩ = wb.cell? ⟨H, 2, none⟩ ∧ wx.cell? ⟨H, 3, none⟩ = wb.cell? ⟨H, 3, none⟩) 3 [(0, true), (1, true), (2, true), (3, false)] (by kernel_rfl) (by kernel_rfl) ⟨rfl, rfl, rfl, rfl⟩ ?_
      (repeat (refine Plan.plan_read (v := ?_) rfl rfl ?_ ?_; rotate_left; (focus ((intro wS hSw; (try dsimp only at hSw); go_simp); try with_reducible rfl)); simp only [Act.put, List.setIfInBounds_toArray, List.set_cons_zero, List.set_cons_succ]))
      (refine Plan.plan_last rfl (fun K hK => ?_); go_simp; refine hK.out _ _ ?_; clear hK K; try simp only [Act.put, List.setIfInBounds_toArray, List.set_cons_zero, List.set_cons_succ])
      go_wp2_with fail
      obtain ⟨u0, u1, u2, u3⟩ := fin_cells hZb.out (.slice (ad o7) NL c7) (.slice (ad o6) NL c6) (.slice LA NL Lc) (.bool false)
      refine bodyPost_ret (v := .tuple #[.slice (ad o6) NL c6, .agg #[.slice (ad o7) NL c7, .slice (ad o6) NL c6, .slice LA NL Lc, .bool false]]) (by simp [results, Try.results37, go_sem, u0, u1, u2, u3]) rfl (after_end (Q := fun k => P3 k ∧ k ≠ H ∧ k ≠ N + 1 ∧ k ≠ E) (T := false) (Nat.le_refl _) hZb.out hWb.out kb.out (fun k q => by have := hPl k q; omega) (fun k q => q.2.2.1) (fun k q => q.1) (iP3 (N + 1) (iP2 (N + 1) (hPN (N + 1) (by omega) (by omega)))) (show w0.heap.size ≤ N + 1 by omega) (fun k q => iP3 k (iP2 k (hPP k q))) (fun k q => q.2.2.2) sSb sAb sFb (by simp [hNR, hNS, hNL]) (by simp [hNR, hNS, hNL]) (by simp [hNR, hNS, hNL]) (by omega) (by omega) (by omega) (by omega) (by exact .inl ⟨hdn, R4, [], [], hU4, by simp, by simp⟩))
    · have q0 : (v == 0) = false := by simpa using hv0
      have q9 : (v == 9) = false := by simpa using hv9
      subst hR4e
      have hdn : s4.down = false := hU4.down
      clear hv0 hv9
      go_upto_region 26 with fail
      clear b0 b1 b2 b3 b4 y0 y1 y2 y3 yf yf2 yf3
      have hH5 := set4_3 (set4_2 hH4 (.slice LA NL Lc)) (.bool false)
      have hZ5 := (Below.heap_setCell (w4.setCell ⟨H, 2, none⟩ (.slice LA NL Lc)) ⟨H, 3, none⟩ (.bool false) _ (show N + 1 ≠ H by omega)).trans ((Below.heap_setCell w4 ⟨H, 2, none⟩ (.slice LA NL Lc) _ (show N + 1 ≠ H by omega)).trans hZ4)
      have hW5 := (hW4.out.set_ 2 (.slice LA NL Lc) (hPN H (by omega) (by omega)) (show w0.heap.size ≤ H by omega)).set_ 3 (.bool false) (hPN H (by omega) (by omega)) (show w0.heap.size ≤ H by omega)
      have r5 := (hR4.set_ (H := H) (fun k q => q.2.1) 2 (.slice LA NL Lc)).set_ (H := H) (fun k q => q.2.1) 3 (.bool false)
      have s5 := (hS4.set_ (H := H) (fun k q => q.2.1) 2 (.slice LA NL Lc)).set_ (H := H) (fun k q => q.2.1) 3 (.bool false)
      have l5 := (hL4.set_ (H := H) (fun k q => q.2.1) 2 (.slice LA NL Lc)).set_ (H := H) (fun k q => q.2.1) 3 (.bool false)
      have k5 := (hk4.set_ (H := H) (fun k q => by have := hPl k q; omega) 2 (.slice LA NL Lc)).set_ (H := H) (fun k q => by have := hPl k q; omega) 3 (.bool false)
      have hz5 : H + 1 ≤ ((w4.setCell ⟨H, 2, none⟩ (.slice LA NL Lc)).setCell ⟨H, 3, none⟩ (.bool false)).heap.size := by simp; omega
      generalize (w4.setCell ⟨H, 2, none⟩ (.slice LA NL Lc)).setCell ⟨H, 3, none⟩ (.bool false) = w5 at hH5 hZ5 hW5 r5 s5 l5 k5 hz5 ⊢
      have KD := Lib.hid (hW5.has.down (v := false) hdn)
      unfold dp at KD
      obtain ⟨y0, y1, y2, y3, yf⟩ := c4of hH5
      have yf1 := yf 1
      go_upto_region 28 with (first | (go_at_call 35; refine KD.out.mono ?_; rintro e _ ⟨rfl, rfl⟩) | fail)
      have hHb := set4_1 hH5 (.slice SA NS sc)
      have hZb := (Below.heap_setCell w5 ⟨H, 1, none⟩ (.slice SA NS sc) _ (show N + 1 ≠ H by omega)).trans hZ5
      have hWb := hW5.set_ 1 (.slice SA NS sc) (hPN H (by omega) (by omega)) (show w0.heap.size ≤ H by omega)
      have sAb := r5.set_ (H := H) (fun k q => q.2.1) 1 (.slice SA NS sc)
      have sSb := s5.set_ (H := H) (fun k q => q.2.1) 1 (.slice SA NS sc)
      have sFb := l5.set_ (H := H) (fun k q => q.2.1) 1 (.slice SA NS sc)
      have kb := k5.set_ (H := H) (fun k q => by have := hPl k q; omega) 1 (.slice SA NS sc)
      generalize w5.setCell ⟨H, 1, none⟩ (.slice SA NS sc) = wb at hHb hZb hWb sAb sSb sFb kb ⊢
      clear y0 y1 y2 y3 yf yf1 KD
      obtain ⟨x0, x1, x2, x3, xf⟩ := c4of hHb
      obtain ⟨z0, z1, z2, z3, zf⟩ := c4of hZb
      have zf0 := zf 0
      have zf1 := zf 1
      have zf2 := zf 2
      have zf3 := zf 3
      replace hWb := Lib.hid hWb
      replace kb := Lib.hid kb
      replace hZb := Lib.hid hZb
      refine Plan.wp_region_plan (fun wx => wx.cell? ⟨H, 0, none⟩ = wb.cell? ⟨H, 0, none⟩ ∧ wx.cell? ⟨H, 1, none⟩ = wb.cell? ⟨H, 1, none⟩ ∧ wx.cell? ⟨H, 2, none⟩ = wb.cell? ⟨H, 2, none⟩ ∧ wx.cell? ⟨H, 3, none⟩ = wb.cell? ⟨H, 3, none⟩) 3 [(0, true), (1, true), (2, true), (3, false)] (by kernel_rfl) (by kernel_rfl) ⟨rfl, rfl, rfl, rfl⟩ ?_
      (repeat (refine Plan.plan_read (v := ?_) rfl rfl ?_ ?_; rotate_left; (focus ((intro wS hSw; (try dsimp only at hSw); go_simp); try with_reducible rfl)); simp only [Act.put, List.setIfInBounds_toArray, List.set_cons_zero, List.set_cons_succ]))
      (refine Plan.plan_last rfl (fun K hK => ?_); go_simp; refine hK.out _ _ ?_; clear hK K; try simp only [Act.put, List.setIfInBounds_toArray, List.set_cons_zero, List.set_cons_succ])
      go_wp2_with fail
      obtain ⟨u0, u1, u2, u3⟩ := fin_cells hZb.out (.slice (ad o2) NR c2) (.slice SA NS sc) (.slice LA NL Lc) (.bool false)
      refine bodyPost_ret (v := .tuple #[.slice SA NS sc, .agg #[.slice (ad o2) NR c2, .slice SA NS sc, .slice LA NL Lc, .bool false]]) (by simp [results, Try.results37, go_sem, u0, u1, u2, u3]) rfl (after_end (Q := fun k => P1 k ∧ k ≠ H ∧ k ≠ N + 1 ∧ k ≠ E) (T := false) (Nat.le_refl _) hZb.out hWb.out kb.out (fun k q => by have := hPl k q; omega) (fun k q => q.2.2.1) (fun k q => q.1) (hPN (N + 1) (by omega) (by omega)) (show w0.heap.size ≤ N + 1 by omega) (hPP) (fun k q => q.2.2.2) sSb sAb sFb (by simp [hNR, hNS, hNL]) (by simp [hNR, hNS, hNL]) (by simp [hNR, hNS, hNL]) (by omega) (by omega) (by omega) (by omega) (by obtain ⟨t, ht⟩ := hsf.out; exact .inl ⟨hdn, R0, X, t, hU4, hR.out, ht⟩))
    · have h9 : v = 9 := hv9
      subst h9
      subst hR4e
      have hdn : s4.down = true := hdn
      replace hrows := Lib.hid hrows
      clear hv0 hv9
      go_upto_region 26 with fail
      clear b0 b1 b2 b3 b4 y0 y1 y2 y3 yf yf2 yf3
      have hH5 := set4_3 (set4_2 hH4 (.slice LA NL Lc)) (.bool true)
      have hZ5 := (Below.heap_setCell (w4.setCell ⟨H, 2, none⟩ (.slice LA NL Lc)) ⟨H, 3, none⟩ (.bool true) _ (show N + 1 ≠ H by omega)).trans ((Below.heap_setCell w4 ⟨H, 2, none⟩ (.slice LA NL Lc) _ (show N + 1 ≠ H by omega)).trans hZ4)
      have hW5 := (hW4.out.set_ 2 (.slice LA NL Lc) (hPN H (by omega) (by omega)) (show w0.heap.size ≤ H by omega)).set_ 3 (.bool true) (hPN H (by omega) (by omega)) (show w0.heap.size ≤ H by omega)
      have r5 := (hR4.set_ (H := H) (fun k q => q.2.1) 2 (.slice LA NL Lc)).set_ (H := H) (fun k q => q.2.1) 3 (.bool true)
      have s5 := (hS4.set_ (H := H) (fun k q => q.2.1) 2 (.slice LA NL Lc)).set_ (H := H) (fun k q => q.2.1) 3 (.bool true)
      have l5 := (hL4.set_ (H := H) (fun k q => q.2.1) 2 (.slice LA NL Lc)).set_ (H := H) (fun k q => q.2.1) 3 (.bool true)
      have k5 := (hk4.set_ (H := H) (fun k q => by have := hPl k q; omega) 2 (.slice LA NL Lc)).set_ (H := H) (fun k q => by have := hPl k q; omega) 3 (.bool true)
      have hz5 : H + 1 ≤ ((w4.setCell ⟨H, 2, none⟩ (.slice LA NL Lc)).setCell ⟨H, 3, none⟩ (.bool true)).heap.size := by simp; omega
      generalize (w4.setCell ⟨H, 2, none⟩ (.slice LA NL Lc)).setCell ⟨H, 3, none⟩ (.bool true) = w5 at hH5 hZ5 hW5 r5 s5 l5 k5 hz5 ⊢
      have KD := Lib.hid (hW5.has.down (v := true) hdn)
      unfold dp at KD
      obtain ⟨y0, y1, y2, y3, yf⟩ := c4of hH5
      have yf1 := yf 1
      go_upto_region 28 with (first | (go_at_call 35; refine KD.out.mono ?_; rintro e _ ⟨rfl, rfl⟩) | fail)
      have hHb := hH5
      have hZb := hZ5
      have hWb := hW5
      have sAb := r5
      have sSb := s5
      have sFb := l5
      have kb := k5
      obtain ⟨wb, hwb⟩ : ∃ W, W = w5 := ⟨_, rfl⟩
      rw [← hwb] at hHb hZb hWb sAb sSb sFb kb ⊢
      clear hwb
      clear y0 y1 y2 y3 yf yf1 KD
      obtain ⟨x0, x1, x2, x3, xf⟩ := c4of hHb
      obtain ⟨z0, z1, z2, z3, zf⟩ := c4of hZb
      have zf0 := zf 0
      have zf1 := zf 1
      have zf2 := zf 2
      have zf3 := zf 3
      replace hWb := Lib.hid hWb
      replace kb := Lib.hid kb
      replace hZb := Lib.hid hZb
      refine Plan.wp_region_plan (fun wx => wx.cell? ⟨H, 0, none⟩ = wb.cell? ⟨H, 0, none⟩ ∧ wx.cell? ⟨H, 1, none⟩ = wb.cell? ⟨H, 1, none⟩ ∧ wx.cell? ⟨H, 2, none⟩ = wb.cell? ⟨H, 2, none⟩ ∧ wx.cell? ⟨H, 3, none⟩ = wb.cell? ⟨H, 3, none⟩) 3 [(0, true), (1, true), (2, true), (3, false)] (by kernel_rfl) (by kernel_rfl) ⟨rfl, rfl, rfl, rfl⟩ ?_
      (repeat (refine Plan.plan_read (v := ?_) rfl rfl ?_ ?_; rotate_left; (focus ((intro wS hSw; (try dsimp only at hSw); go_simp); try with_reducible rfl)); simp only [Act.put, List.setIfInBounds_toArray, List.set_cons_zero, List.set_cons_succ]))
      (refine Plan.plan_last rfl (fun K hK => ?_); go_simp; refine hK.out _ _ ?_; clear hK K; try simp only [Act.put, List.setIfInBounds_toArray, List.set_cons_zero, List.set_cons_succ])
      go_wp2_with fail
      obtain ⟨u0, u1, u2, u3⟩ := fin_cells hZb.out (.slice (ad o2) NR c2) (.slice SA NS sc) (.slice LA NL Lc) (.bool true)
      refine bodyPost_ret (v := .tuple #[.slice SA NS sc, .agg #[.slice (ad o2) NR c2, .slice SA NS sc, .slice LA NL Lc, .bool true]]) (by simp [results, Try.results37, go_sem, u0, u1, u2, u3]) rfl (after_end (Q := fun k => P1 k ∧ k ≠ H ∧ k ≠ N + 1 ∧ k ≠ E) (T := true) (Nat.le_refl _) hZb.out hWb.out kb.out (fun k q => by have := hPl k q; omega) (fun k q => q.2.2.1) (fun k q => q.1) (hPN (N + 1) (by omega) (by omega)) (show w0.heap.size ≤ N + 1 by omega) (hPP) (fun k q => q.2.2.2) sSb sAb sFb (by simp [hNR, hNS, hNL]) (by simp [hNR, hNS, hNL]) (by simp [hNR, hNS, hNL]) (by omega) (by omega) (by omega) (by omega) (by rw [hR.out]; exact aft_down0 hdn hok4 hcov4 hrows.out hsf.out))
  · subst hD
    obtain ⟨a0, a1, a2, a3, a4⟩ := c5of hA3
    have KC := Lib.hid (wlose_any hW3 an hN rfl)
    unfold dp at KC
    replace hW3 := Lib.hid hW3
    go_upto_region 26 with (first | (go_at_call 59; refine KC.out.mono ?_; rintro e w4 ⟨rfl, hW4, k4⟩) | fail)
    have hH4 := (k4.block H (by omega) (hPN H (by omega) (by omega))).trans hH3
    have hZ4 := (k4.block (N + 1) (by omega) (hPN (N + 1) (by omega) (by omega))).trans hZ3
    have hS4 := hS3.keep (k4.sub fun k q => q.1)
    have hR4 := hR3.keep (k4.sub fun k q => q.1)
    have hk4 := hk3.trans (k4.sub hPP)
    have hz4 : H + 1 ≤ w4.heap.size := by have := k4.size; omega
    have hF4 := StrsP.nil (fun k => P1 k ∧ k ≠ H ∧ k ≠ N + 1 ∧ k ≠ E) w4 none
    have hdn : (DK.lose s an).down = false := hU.out.down
    have KD := Lib.hid (hW4.has.down (v := false) hdn)
    unfold dp at KD
    obtain ⟨y0, y1, y2, y3, yf⟩ := c4of hH4
    have yf1 := yf 1
    go_upto_region 28 with (first | (go_at_call 35; refine KD.out.mono ?_; rintro e _ ⟨rfl, rfl⟩) | fail)
    have hHb := set4_1 hH4 (.slice SA NS sc)
    have hZb := (Below.heap_setCell w4 ⟨H, 1, none⟩ (.slice SA NS sc) _ (show N + 1 ≠ H by omega)).trans hZ4
    have hWb := hW4.set_ 1 (.slice SA NS sc) (hPN H (by omega) (by omega)) (show w0.heap.size ≤ H by omega)
    have sAb := hR4.set_ (H := H) (fun k q => q.2.1) 1 (.slice SA NS sc)
    have sSb := hS4.set_ (H := H) (fun k q => q.2.1) 1 (.slice SA NS sc)
    have sFb := hF4.set_ (H := H) (fun k q => q.2.1) 1 (.slice SA NS sc)
    have kb := hk4.set_ (H := H) (fun k q => by have := hPl k q; omega) 1 (.slice SA NS sc)
    generalize w4.setCell ⟨H, 1, none⟩ (.slice SA NS sc) = wb at hHb hZb hWb sAb sSb sFb kb ⊢
    clear y0 y1 y2 y3 yf yf1 KD
    obtain ⟨x0, x1, x2, x3, xf⟩ := c4of hHb
    obtain ⟨z0, z1, z2, z3, zf⟩ := c4of hZb
    have zf0 := zf 0
    have zf1 := zf 1
    have zf2 := zf 2
    have zf3 := zf 3
    replace hWb := Lib.hid hWb
    replace kb := Lib.hid kb
    replace hZb := Lib.hid hZb
    refine Plan.wp_region_plan (fun wx => wx.cell? ⟨H, 0, none⟩ = wb.cell? ⟨H, 0, none⟩ ∧ wx.cell? ⟨H, 1, none⟩ = wb.cell? ⟨H, 1, none⟩ ∧ wx.cell? ⟨H, 2, none⟩ = wb.cell? ⟨H, 2, none⟩ ∧ wx.cell? ⟨H, 3, none⟩ = wb.cell? ⟨H, 3, none⟩) 3 [(0, true), (1, true), (2, true), (3, false)] (by kernel_rfl) (by kernel_rfl) ⟨rfl, rfl, rfl, rfl⟩ ?_
    (repeat (refine Plan.plan_read (v := ?_) rfl rfl ?_ ?_; rotate_left; (focus ((intro wS hSw; (try dsimp only at hSw); go_simp); try with_reducible rfl)); simp only [Act.put, List.setIfInBounds_toArray, List.set_cons_zero, List.set_cons_succ]))
    (refine Plan.plan_last rfl (fun K hK => ?_); go_simp; refine hK.out _ _ ?_; clear hK K; try simp only [Act.put, List.setIfInBounds_toArray, List.set_cons_zero, List.set_cons_succ])
    go_wp2_with fail
    obtain ⟨u0, u1, u2, u3⟩ := fin_cells hZb.out (.slice (ad o2) NR c2) (.slice SA NS sc) (.slice none 0 0) (.bool false)
    refine bodyPost_ret (v := .tuple #[.slice SA NS sc, .agg #[.slice (ad o2) NR c2, .slice SA NS sc, .slice none 0 0, .bool false]]) (by simp [results, Try.results37, go_sem, u0, u1, u2, u3]) rfl (after_end (Q := fun k => P1 k ∧ k ≠ H ∧ k ≠ N + 1 ∧ k ≠ E) (T := false) (Nat.le_succ _) hZb.out hWb.out kb.out (fun k q => by have := hPl k q; omega) (fun k q => q.2.2.1) (fun k q => q.1) (hPN (N + 1) (by omega) (by omega)) (show w0.heap.size ≤ N + 1 by omega) (hPP) (fun k q => q.2.2.2) sSb sAb sFb (by simp [hNR, hNS, hNL]) (by simp [hNR, hNS, hNL]) (by simp [hNR, hNS, hNL]) (by omega) (by omega) (by omega) (Nat.zero_le _) (by obtain ⟨t, ht⟩ := hsf.out; exact .inl ⟨hdn, R0, X, t, up2_lose hU.out an, hR.out, ht⟩))
  · subst hD
    obtain ⟨a0, a1, a2, a3, a4⟩ := c5of hA3
    have KC := Lib.hid (warm_any (c := Kc) hW3 an hN (Apart.oldP hW3.has hK) (by omega) rfl)
    rw [hNK] at KC
    unfold dp at KC
    replace hW3 := Lib.hid hW3
    go_upto_region 26 with (first | (go_at_call 61; refine KC.out.mono ?_; rintro e w4 ⟨rfl, hW4, k4⟩) | fail)
    have hH4 := (k4.block H (by omega) (hPN H (by omega) (by omega))).trans hH3
    have hZ4 := (k4.block (N + 1) (by omega) (hPN (N + 1) (by omega) (by omega))).trans hZ3
    have hS4 := hS3.keep (k4.sub fun k q => q.1)
    have hR4 := hR3.keep (k4.sub fun k q => q.1)
    have hk4 := hk3.trans (k4.sub hPP)
    have hz4 : H + 1 ≤ w4.heap.size := by have := k4.size; omega
    have hF4 := StrsP.nil (fun k => P1 k ∧ k ≠ H ∧ k ≠ N + 1 ∧ k ≠ E) w4 none
    have hdn : (DK.arm s an K).down = false := hU.out.down
    have KD := Lib.hid (hW4.has.down (v := false) hdn)
    unfold dp at KD
    obtain ⟨y0, y1, y2, y3, yf⟩ := c4of hH4
    have yf1 := yf 1
    go_upto_region 28 with (first | (go_at_call 35; refine KD.out.mono ?_; rintro e _ ⟨rfl, rfl⟩) | fail)
    have hHb := set4_1 hH4 (.slice SA NS sc)
    have hZb := (Below.heap_setCell w4 ⟨H, 1, none⟩ (.slice SA NS sc) _ (show N + 1 ≠ H by omega)).trans hZ4
    have hWb := hW4.set_ 1 (.slice SA NS sc) (hPN H (by omega) (by omega)) (show w0.heap.size ≤ H by omega)
    have sAb := hR4.set_ (H := H) (fun k q => q.2.1) 1 (.slice SA NS sc)
    have sSb := hS4.set_ (H := H) (fun k q => q.2.1) 1 (.slice SA NS sc)
    have sFb := hF4.set_ (H := H) (fun k q => q.2.1) 1 (.slice SA NS sc)
    have kb := hk4.set_ (H := H) (fun k q => by have := hPl k q; omega) 1 (.slice SA NS sc)
    generalize w4.setCell ⟨H, 1, none⟩ (.slice SA NS sc) = wb at hHb hZb hWb sAb sSb sFb kb ⊢
    clear y0 y1 y2 y3 yf yf1 KD
    obtain ⟨x0, x1, x2, x3, xf⟩ := c4of hHb
    obtain ⟨z0, z1, z2, z3, zf⟩ := c4of hZb
    have zf0 := zf 0
    have zf1 := zf 1
    have zf2 := zf 2
    have zf3 := zf 3
    replace hWb := Lib.hid hWb
    replace kb := Lib.hid kb
    replace hZb := Lib.hid hZb
    refine Plan.wp_region_plan (fun wx => wx.cell? ⟨H, 0, none⟩ = wb.cell? ⟨H, 0, none⟩ ∧ wx.cell? ⟨H, 1, none⟩ = wb.cell? ⟨H, 1, none⟩ ∧ wx.cell? ⟨H, 2, none⟩ = wb.cell? ⟨H, 2, none⟩ ∧ wx.cell? ⟨H, 3, none⟩ = wb.cell? ⟨H, 3, none⟩) 3 [(0, true), (1, true), (2, true), (3, false)] (by kernel_rfl) (by kernel_rfl) ⟨rfl, rfl, rfl, rfl⟩ ?_
    (repeat (refine Plan.plan_read (v := ?_) rfl rfl ?_ ?_; rotate_left; (focus ((intro wS hSw; (try dsimp only at hSw); go_simp); try with_reducible rfl)); simp only [Act.put, List.setIfInBounds_toArray, List.set_cons_zero, List.set_cons_succ]))
    (refine Plan.plan_last rfl (fun K hK => ?_); go_simp; refine hK.out _ _ ?_; clear hK K; try simp only [Act.put, List.setIfInBounds_toArray, List.set_cons_zero, List.set_cons_succ])
    go_wp2_with fail
    obtain ⟨u0, u1, u2, u3⟩ := fin_cells hZb.out (.slice (ad o2) NR c2) (.slice SA NS sc) (.slice none 0 0) (.bool false)
    refine bodyPost_ret (v := .tuple #[.slice SA NS sc, .agg #[.slice (ad o2) NR c2, .slice SA NS sc, .slice none 0 0, .bool false]]) (by simp [results, Try.results37, go_sem, u0, u1, u2, u3]) rfl (after_end (Q := fun k => P1 k ∧ k ≠ H ∧ k ≠ N + 1 ∧ k ≠ E) (T := false) (Nat.le_succ _) hZb.out hWb.out kb.out (fun k q => by have := hPl k q; omega) (fun k q => q.2.2.1) (fun k q => q.1) (hPN (N + 1) (by omega) (by omega)) (show w0.heap.size ≤ N + 1 by omega) (hPP) (fun k q => q.2.2.2) sSb sAb sFb (by simp [hNR, hNS, hNL]) (by simp [hNR, hNS, hNL]) (by simp [hNR, hNS, hNL]) (by omega) (by omega) (by omega) (Nat.zero_le _) (by obtain ⟨t, ht⟩ := hsf.out; exact .inl ⟨hdn, R0, X, t, up2_arm hU.out an K, hR.out, ht⟩))
end Go.Proofs.Ytmnimcdbfolhaaa
