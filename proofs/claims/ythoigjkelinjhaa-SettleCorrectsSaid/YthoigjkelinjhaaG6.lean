/- Walks of bare, banded, fields. (Printed by gen_g6.py.) -/
import Derived.Test.YthoigjkelinjhaaG5
import Derived.Deep.MidRow
import Derived.Great.BuildSlice
set_option linter.unusedSimpArgs false
set_option linter.unusedVariables false
namespace Go.Proofs.Ythoigjkelinjhaa.RT
open Go.RowKit BV
attribute [local go_sem] alloc_drewN setCell_drewN shape_drewN

def bareL (p : Lk) : Lk := ⟨p.nm, p.kind, p.frm, p.to_, none, 0, 0, none, 0, 0, none, 0, 0, 0, 0, 0, 0, 0, 0, 0, 0, 0, 0, p.delay⟩
def BareIs (p : Lk) (w : World) (e : Ending) (w' : World) : Prop := e = .returned (.agg (bareL p).cells.toArray) ∧ Below w.heap.size w w'
theorem isSome_box {w : World} {b : Nat} {cs : Array Value} {t : TypeId} (h : Box w b cs t) (j : Nat) (hj : j < cs.size) : (w.cell? ⟨b, j, none⟩).isSome = true := by
  rw [h.cell (Array.getElem?_eq_getElem hj)]; rfl
/-- A box that is written as a whole. -/
theorem Box.put : ∀ (vs : List Value) (o : Nat) {w : World} {b : Nat} {cs : Array Value} {t : TypeId}, Box w b cs t → ∃ cs', Box (w.setCells b o vs) b cs' t ∧ cs'.size = cs.size ∧ (∀ j, j < o → cs'[j]? = cs[j]?) ∧ (∀ j, o ≤ j → j < cs.size → j < o + vs.length → cs'[j]? = vs[j - o]?)
  | [], o, w, b, cs, t, h => ⟨cs, h, rfl, fun _ _ => rfl, fun j h1 _ h2 => by simp at h2; omega⟩
  | v :: vs, o, w, b, cs, t, h => by
    have h1 : Box (w.setCell ⟨b, o, none⟩ v) b (cs.setIfInBounds o v) t := by
      unfold Box at *
      simp [World.setCell, Array.getElem?_modify, h]
    obtain ⟨cs', k1, k2, k3, k4⟩ := Box.put vs (o + 1) h1
    refine ⟨cs', k1, by rw [k2]; simp, fun j hj => ?_, fun j hj hc hl => ?_⟩
    · rw [k3 j (by omega), Array.getElem?_setIfInBounds_ne (by omega)]
    · by_cases e : j = o
      · subst e
        rw [k3 j (by omega), Array.getElem?_setIfInBounds]
        simp [hc]
      · rw [k4 j (by omega) (by simpa using hc) (by simp at hl; omega)]
        rw [show j - o = (j - (o + 1)) + 1 by omega, List.getElem?_cons_succ]
theorem Box.all {w : World} {b : Nat} {cs : Array Value} {t : TypeId} (h : Box w b cs t) (vs : List Value) (hv : vs.length = cs.size) : Box (w.setCells b 0 vs) b vs.toArray t := by
  obtain ⟨cs', k1, k2, _, k4⟩ := Box.put vs 0 h
  have : cs' = vs.toArray := by
    apply Array.ext_getElem?
    intro j
    by_cases hj : j < cs.size
    · rw [k4 j (Nat.zero_le _) hj (by omega)]; simp
    · rw [Array.getElem?_eq_none (by omega), Array.getElem?_eq_none (by simp; omega)]
  rw [← this]; exact k1
theorem below_all {B b : Nat} {w0 w : World} (h : Below B w0 w) (hb : B ≤ b) : ∀ (vs : List Value) (o : Nat) , Below B w0 (w.setCells b o vs) := fun vs o => by
  induction vs generalizing o w with
  | nil => exact h
  | cons v vs ih => exact ih (h.setCell hb v) (o + 1)
set_option maxRecDepth 100000 in
set_option maxHeartbeats 8000000 in
theorem bare_any (p : Lk) (w : World) : Calls Try.prog 56 #[.agg p.cells.toArray] w (BareIs p w) := by
  have hB0 : Below w.heap.size w ((w.alloc (.cells p.cells.toArray 108)).alloc (.cells (#[.string ⟨#[]⟩, .int .i64 0, .int .i64 0, .int .i64 0, .slice none 0 0, .slice none 0 0, .slice none 0 0, .int .i64 0, .int .i64 0, .int .i64 0, .int .i64 0, .int .i64 0, .int .i64 0, .int .i64 0, .int .i64 0, .int .i64 0, .int .i64 0, .int .i64 0]) 108)) := ((Below.refl _ _).alloc (Nat.le_refl _) _).alloc (by simp) _
  have hX0 : Box ((w.alloc (.cells p.cells.toArray 108)).alloc (.cells (#[.string ⟨#[]⟩, .int .i64 0, .int .i64 0, .int .i64 0, .slice none 0 0, .slice none 0 0, .slice none 0 0, .int .i64 0, .int .i64 0, .int .i64 0, .int .i64 0, .int .i64 0, .int .i64 0, .int .i64 0, .int .i64 0, .int .i64 0, .int .i64 0, .int .i64 0]) 108)) w.heap.size p.cells.toArray 108 := (Box.new w _ _).keep (Below.heap_alloc _ _ _ (by simp))
  have hY0 : Box ((w.alloc (.cells p.cells.toArray 108)).alloc (.cells (#[.string ⟨#[]⟩, .int .i64 0, .int .i64 0, .int .i64 0, .slice none 0 0, .slice none 0 0, .slice none 0 0, .int .i64 0, .int .i64 0, .int .i64 0, .int .i64 0, .int .i64 0, .int .i64 0, .int .i64 0, .int .i64 0, .int .i64 0, .int .i64 0, .int .i64 0]) 108)) (w.heap.size + 1) (#[.string ⟨#[]⟩, .int .i64 0, .int .i64 0, .int .i64 0, .slice none 0 0, .slice none 0 0, .slice none 0 0, .int .i64 0, .int .i64 0, .int .i64 0, .int .i64 0, .int .i64 0, .int .i64 0, .int .i64 0, .int .i64 0, .int .i64 0, .int .i64 0, .int .i64 0]) 108 := by
    have := Box.new (w.alloc (.cells p.cells.toArray 108)) (#[.string ⟨#[]⟩, .int .i64 0, .int .i64 0, .int .i64 0, .slice none 0 0, .slice none 0 0, .slice none 0 0, .int .i64 0, .int .i64 0, .int .i64 0, .int .i64 0, .int .i64 0, .int .i64 0, .int .i64 0, .int .i64 0, .int .i64 0, .int .i64 0, .int .i64 0]) 108
    simpa using this
  go_enter Try.func56, Try.ntmps56
  go_upto_region 1 with fail
  generalize ((w.alloc (.cells p.cells.toArray 108)).alloc (.cells (#[.string ⟨#[]⟩, .int .i64 0, .int .i64 0, .int .i64 0, .slice none 0 0, .slice none 0 0, .slice none 0 0, .int .i64 0, .int .i64 0, .int .i64 0, .int .i64 0, .int .i64 0, .int .i64 0, .int .i64 0, .int .i64 0, .int .i64 0, .int .i64 0, .int .i64 0]) 108)) = W at hB0 hX0 hY0 ⊢
  have x0 : W.cell? ⟨w.heap.size, 0, none⟩ = some (.string p.nm) := hX0.cell rfl
  have x1 : W.cell? ⟨w.heap.size, 1, none⟩ = some (.int .i64 p.kind) := hX0.cell rfl
  have x2 : W.cell? ⟨w.heap.size, 2, none⟩ = some (.int .i64 p.frm) := hX0.cell rfl
  have x3 : W.cell? ⟨w.heap.size, 3, none⟩ = some (.int .i64 p.to_) := hX0.cell rfl
  have x17 : W.cell? ⟨w.heap.size, 17, none⟩ = some (.int .i64 p.delay) := hX0.cell rfl
  have z0 := hX0.lt
  have z1 := hY0.lt
  obtain ⟨A, hA⟩ : ∃ A, A = (bareL p).cells.toArray := ⟨_, rfl⟩
  have hth : W.there (w.heap.size + 1) 0 A.size := fun j hj => by
    rw [hA] at hj
    exact ⟨by rw [Nat.zero_add]; exact isSome_box hY0 j hj, by rw [Nat.zero_add]; exact hY0.free j⟩
  have hsi : (Try.prog.info? 108).map (·.size) = some A.size := by rw [hA]; kernel_rfl
  have hone : A.all (·.oneCell') = true := by rw [hA]; kernel_rfl
  have hY1 := hY0.all A.toList (by rw [hA]; rfl)
  have hB1 := below_all hB0 (show w.heap.size ≤ w.heap.size + 1 by omega) A.toList 0
  have hbd : Try.prog.built 108 [(0, .string p.nm), (1, .int .i64 p.kind), (2, .int .i64 p.frm), (3, .int .i64 p.to_), (16, .int .i64 p.delay)] = some A := by rw [hA]; kernel_rfl
  have HA := Lib.hid hA
  have HY1 := Lib.hid hY1
  have Hth := Lib.hid hth
  have Hsi := Lib.hid hsi
  have Hone := Lib.hid hone
  have Hbd := Lib.hid hbd
  clear hX0 hY0 hY1 hth hsi hone hbd hA
  go_wp2_with (first | (refine wpList_store_mid (by rfl) _ _ _ (by rfl) (w.heap.size + 1) 0 A (by rfl) (by rfl) Hth.out Hsi.out Hone.out ?_) | (refine wpList_buildTo (by rfl) 108 _ (by rfl) _ (by rfl) A (Eq.trans (congrArg (Try.prog.built 108) (show _ = [(0, .string p.nm), (1, .int .i64 p.kind), (2, .int .i64 p.frm), (3, .int .i64 p.to_), (16, .int .i64 p.delay)] by kernel_rfl)) Hbd.out) ?_) | fail)
  generalize W.setCells (w.heap.size + 1) 0 A.toList = W2 at hB1 HY1 ⊢
  have hld : (loadVar 108 ⟨w.heap.size + 1, 0, none⟩).run Try.prog W2 = .ok (.agg A) W2 := by
    obtain ⟨_, fs, hu, _⟩ := fieldsLk
    exact run_loadVar_mid W2 _ _ _ A.toList _ (fun j v hj => by rw [Nat.zero_add]; exact HY1.out.cell (by simpa using hj)) hu rfl (by have := Hsi.out; simpa using this)
  refine bodyPost_ret (v := .agg A) (by simp [results, Try.results56, Act.put, asAddr, Result.andThen, hld]) rfl ?_
  exact ⟨by rw [HA.out], hB1⟩
set_option maxRecDepth 100000 in
set_option maxHeartbeats 8000000 in
theorem banded_any (p : Lk) (w : World) (hp : p.ok w w.heap.size) : Calls Try.prog 57 #[.agg p.cells.toArray] w (SomeB w) := by
  have hB0 : Below w.heap.size w (w.alloc (.cells p.cells.toArray 108)) := (Below.refl _ _).alloc (Nat.le_refl _) _
  have hX0 : Box (w.alloc (.cells p.cells.toArray 108)) w.heap.size p.cells.toArray 108 := Box.new w _ _
  have K1 := Lib.hid (fun wx (h : Below w.heap.size w wx) => under_any p.aL p.lL p.cL p.art p.lrt p.crt wx (hp.up h).2.1 (hp.up h).1)
  have K2 := Lib.hid (fun wx (h : Below w.heap.size w wx) => under_any p.art p.lrt p.crt p.aH p.lH p.cH wx (hp.up h).1 (hp.up h).2.2)
  clear hp
  go_enter Try.func57, Try.ntmps57
  go_upto_region 1 with fail
  generalize (w.alloc (.cells p.cells.toArray 108)) = w0 at hB0 hX0 ⊢
  have z0 := hX0.lt
  have x4 : w0.cell? ⟨w.heap.size, 4, none⟩ = some (.slice p.art p.lrt p.crt) := hX0.cell rfl
  have x5 : w0.cell? ⟨w.heap.size, 5, none⟩ = some (.slice p.aL p.lL p.cL) := hX0.cell rfl
  go_wp2_with fail
  go_at_call 61
  (with_reducible refine (K1.out w0 hB0).mono ?_)
  rintro e1 w1 ⟨b, rfl, hb1⟩
  have hX1 := hX0.below hb1 z0
  have hB1 := hB0.trans (hb1.mono hB0.size)
  clear x4 x5
  cases b
  · go_wp2_with fail
    go_ret
    exact ⟨_, rfl, hB1⟩
  · have x4 : w1.cell? ⟨w.heap.size, 4, none⟩ = some (.slice p.art p.lrt p.crt) := hX1.cell rfl
    have x6 : w1.cell? ⟨w.heap.size, 6, none⟩ = some (.slice p.aH p.lH p.cH) := hX1.cell rfl
    go_wp2_with fail
    go_at_call 61
    (with_reducible refine (K2.out w1 hB1).mono ?_)
    rintro e2 w2 ⟨b, rfl, hb2⟩
    have hB2 := hB1.trans (hb2.mono hB1.size)
    go_wp2_with fail
    all_goals
      go_ret
      exact ⟨_, rfl, hB2⟩
theorem Box.set {w : World} {b : Nat} {cs : Array Value} {t : TypeId} (h : Box w b cs t) (j : Nat) (v : Value) : Box (w.setCell ⟨b, j, none⟩ v) b (cs.setIfInBounds j v) t := by
  unfold Box at *
  simp [World.setCell, Array.getElem?_modify, h]
theorem Box.aside {w : World} {b b' : Nat} {cs : Array Value} {t : TypeId} (h : Box w b cs t) (j : Nat) (v : Value) (hb : b ≠ b') : Box (w.setCell ⟨b', j, none⟩ v) b cs t :=
  h.keep (Below.heap_setCell w ⟨b', j, none⟩ v b hb)
theorem Box.range {w : World} {b : Nat} {cs : List Value} {t : TypeId} (h : Box w b cs.toArray t) : w.rangeAt b 0 cs := fun j v hj => by rw [Nat.zero_add]; exact h.cell (by simpa using hj)
theorem Box.there {w : World} {b : Nat} {cs : Array Value} {t : TypeId} (h : Box w b cs t) {n : Nat} (hn : cs.size = n) : w.there b 0 n := fun j hj => by
  rw [Nat.zero_add]
  exact ⟨isSome_box h j (by omega), h.free j⟩
theorem wpList_load_g {P : Program} {ops : Array Oper} {rest : List Oper} {op : Oper} {a : Act} {w : World} {Q : Exit → Act → World → Prop} (hw : Region.wanted op (yielded ops a.tmps) = true) (ty : TypeId) (x : Operand) (ho : op.op = .load ty x)
    (b o : Nat) (hx : a.eval x = .pointer (some ⟨b, o, none⟩)) (cs : List Value) (d : TypeDesc) (hc : w.rangeAt b o cs)
    (hu : P.underlying ty = some d) (hd : d.isRow = true) (hi : (P.info? ty).map (·.size) = some cs.length)
    (h : wpList P ops Q rest (a.put op.dst (.agg cs.toArray)) w) : wpList P ops Q (op :: rest) a w :=
  wpList_step fun K hK => by rw [if_pos hw]; exact wp_load_mid ty x ho b o hx cs d hc hu hd hi (hK _ _ h)
theorem lkInfo0 : (Try.prog.info? 108).map (·.size) = some 18 := by kernel_rfl
theorem lkInfo (p : Lk) : (Try.prog.info? 108).map (·.size) = some p.cells.length := lkInfo0
theorem lkOne (p : Lk) : p.cells.toArray.all (·.oneCell') = true := by unfold Lk.cells; kernel_rfl
theorem heap_all {b g : Nat} (hne : b ≠ g) : ∀ (vs : List Value) (o : Nat) (w : World), (w.setCells g o vs).heap[b]? = w.heap[b]?
  | [], _, _ => rfl
  | v :: vs, o, w => (heap_all hne vs (o + 1) _).trans (Below.heap_setCell w ⟨g, o, none⟩ v b hne)
theorem nilSl {w : World} {B : Nat} {e : TypeId} {s : Nat} : Sl w B e s none 0 := ⟨by omega, 0, fun h => absurd h (by omega)⟩
end Go.Proofs.Ythoigjkelinjhaa.RT
