/- Joined of: LK0 V8 LK V10 V4. -/
import Derived.Test.YtkbceeobnbbfbaaDoorG07
/- What look leaves, and what holds in its middle. -/
set_option linter.unusedSimpArgs false
set_option linter.unusedVariables false
namespace Go.Proofs.YtkbceeobnbbfbaaDoor
open Go.RowKit CM

theorem IntsAt.far {w : World} {B : Nat} {C : Option Addr} {l : List Int} (h : IntsAt w B C l) {p : Addr} (hp : ∀ a, C = some a → a.block ≠ p.block) (u : Value) : IntsAt (w.setCell p u) B C l := by
  intro hm
  obtain ⟨b, off, e, hb, hc⟩ := h hm
  refine ⟨b, off, e, hb, fun j hj => ?_⟩
  have hne := hp _ e
  exact (World.cell?_of_block (a := ⟨b, off + j, none⟩) (Below.heap_setCell w p u b hne)).trans (hc j hj)
/-- The middle of look. -/
structure LookW (X : Bas) (pl : Pl) (R : List Rt) (w : World) (br bl bt bd : Nat) (FB FL FT : Nat → Value) (wr : World) : Prop where
  c0 : wr.cell? ⟨bd, 0, none⟩ = some (.slice (some ⟨br, 0, none⟩) R.length R.length)
  c1 : wr.cell? ⟨bd, 1, none⟩ = some (.slice (some ⟨bl, 0, none⟩) pl.length pl.length)
  c2 : wr.cell? ⟨bd, 2, none⟩ = some (.slice (some ⟨bt, 0, none⟩) pl.length pl.length)
  aB : Arr wr br R.length FB
  aL : Arr wr bl pl.length FL
  aT : Arr wr bt pl.length FT
  ne : br ≠ bl ∧ br ≠ bt ∧ br ≠ bd ∧ bl ≠ bt ∧ bl ≠ bd ∧ bt ≠ bd
  lo : w.heap.size + 1 < br ∧ w.heap.size + 1 < bl ∧ w.heap.size + 1 < bt ∧ w.heap.size + 1 < bd
  hi : br < wr.heap.size ∧ bl < wr.heap.size ∧ bt < wr.heap.size ∧ bd < wr.heap.size
  box : BoxB wr w.heap.size X pl
  t8 : Arr wr (w.heap.size + 1) 3 (fun _ => .slice none 0 0)
  below : Below w.heap.size w wr
section
variable {X : Bas} {pl : Pl} {R : List Rt} {w : World} {br bl bt bd : Nat} {FB FL FT : Nat → Value} {wr w1 : World}
theorem LookW.go (h : LookW X pl R w br bl bt bd FB FL FT wr) (hb : Below wr.heap.size wr w1) : LookW X pl R w br bl bt bd FB FL FT w1 := by
  obtain ⟨h1, h2, h3, h4⟩ := h.hi
  have hz := hb.size
  obtain ⟨l1, _⟩ := h.lo
  exact ⟨(hb.cell (p := ⟨bd, 0, none⟩) h4).trans h.c0, (hb.cell (p := ⟨bd, 1, none⟩) h4).trans h.c1, (hb.cell (p := ⟨bd, 2, none⟩) h4).trans h.c2, h.aB.below hb h1, h.aL.below hb h2, h.aT.below hb h3, h.ne, h.lo,
    ⟨by omega, by omega, by omega, by omega⟩, h.box.below hb (by omega), h.t8.below hb (by omega), h.below.trans (hb.mono (by omega))⟩
theorem cell_far {p q : Addr} (h : p.block ≠ q.block) (u : Value) : (wr.setCell q u).cell? p = wr.cell? p := World.cell?_of_block (Below.heap_setCell wr q u p.block h)
theorem LookW.setB (h : LookW X pl R w br bl bt bd FB FL FT wr) {i : Nat} (hi : i < R.length) (x : Value) : LookW X pl R w br bl bt bd (updF FB i x) FL FT (wr.setCell ⟨br, i, none⟩ x) := by
  obtain ⟨n1, n2, n3, n4, n5, n6⟩ := h.ne
  obtain ⟨l1, _⟩ := h.lo
  refine ⟨(cell_far (p := ⟨bd, 0, none⟩) (q := ⟨br, i, none⟩) (Ne.symm n3) x).trans h.c0, (cell_far (p := ⟨bd, 1, none⟩) (q := ⟨br, i, none⟩) (Ne.symm n3) x).trans h.c1, (cell_far (p := ⟨bd, 2, none⟩) (q := ⟨br, i, none⟩) (Ne.symm n3) x).trans h.c2, h.aB.set hi x, h.aL.far (p := ⟨br, i, none⟩) (Ne.symm n1) x, h.aT.far (p := ⟨br, i, none⟩) (Ne.symm n2) x, h.ne, h.lo, by simpa using h.hi, ?_, h.t8.far (p := ⟨br, i, none⟩) (by show w.heap.size + 1 ≠ br; omega) x, h.below.setCell (p := ⟨br, i, none⟩) (by show w.heap.size ≤ br; omega) x⟩
  exact (Below.heap_setCell wr ⟨br, i, none⟩ x w.heap.size (by show w.heap.size ≠ br; omega)).trans h.box
theorem LookW.setL (h : LookW X pl R w br bl bt bd FB FL FT wr) {i : Nat} (hi : i < pl.length) (x : Value) : LookW X pl R w br bl bt bd FB (updF FL i x) FT (wr.setCell ⟨bl, i, none⟩ x) := by
  obtain ⟨n1, n2, n3, n4, n5, n6⟩ := h.ne
  obtain ⟨_, l1, _⟩ := h.lo
  refine ⟨(cell_far (p := ⟨bd, 0, none⟩) (q := ⟨bl, i, none⟩) (Ne.symm n5) x).trans h.c0, (cell_far (p := ⟨bd, 1, none⟩) (q := ⟨bl, i, none⟩) (Ne.symm n5) x).trans h.c1, (cell_far (p := ⟨bd, 2, none⟩) (q := ⟨bl, i, none⟩) (Ne.symm n5) x).trans h.c2, h.aB.far (p := ⟨bl, i, none⟩) n1 x, h.aL.set hi x, h.aT.far (p := ⟨bl, i, none⟩) (Ne.symm n4) x, h.ne, h.lo, by simpa using h.hi, ?_, h.t8.far (p := ⟨bl, i, none⟩) (by show w.heap.size + 1 ≠ bl; omega) x, h.below.setCell (p := ⟨bl, i, none⟩) (by show w.heap.size ≤ bl; omega) x⟩
  exact (Below.heap_setCell wr ⟨bl, i, none⟩ x w.heap.size (by show w.heap.size ≠ bl; omega)).trans h.box
theorem LookW.setT (h : LookW X pl R w br bl bt bd FB FL FT wr) {i : Nat} (hi : i < pl.length) (x : Value) : LookW X pl R w br bl bt bd FB FL (updF FT i x) (wr.setCell ⟨bt, i, none⟩ x) := by
  obtain ⟨n1, n2, n3, n4, n5, n6⟩ := h.ne
  obtain ⟨_, _, l1, _⟩ := h.lo
  refine ⟨(cell_far (p := ⟨bd, 0, none⟩) (q := ⟨bt, i, none⟩) (Ne.symm n6) x).trans h.c0, (cell_far (p := ⟨bd, 1, none⟩) (q := ⟨bt, i, none⟩) (Ne.symm n6) x).trans h.c1, (cell_far (p := ⟨bd, 2, none⟩) (q := ⟨bt, i, none⟩) (Ne.symm n6) x).trans h.c2, h.aB.far (p := ⟨bt, i, none⟩) n2 x, h.aL.far (p := ⟨bt, i, none⟩) n4 x, h.aT.set hi x, h.ne, h.lo, by simpa using h.hi, ?_, h.t8.far (p := ⟨bt, i, none⟩) (by show w.heap.size + 1 ≠ bt; omega) x, h.below.setCell (p := ⟨bt, i, none⟩) (by show w.heap.size ≤ bt; omega) x⟩
  exact (Below.heap_setCell wr ⟨bt, i, none⟩ x w.heap.size (by show w.heap.size ≠ bt; omega)).trans h.box
theorem LookW.congr {GB GL GT : Nat → Value} (h : LookW X pl R w br bl bt bd FB FL FT wr) (e1 : ∀ j, j < R.length → FB j = GB j) (e2 : ∀ j, j < pl.length → FL j = GL j) (e3 : ∀ j, j < pl.length → FT j = GT j) : LookW X pl R w br bl bt bd GB GL GT wr :=
  ⟨h.c0, h.c1, h.c2, h.aB.congr e1, h.aL.congr e2, h.aT.congr e3, h.ne, h.lo, h.hi, h.box, h.t8, h.below⟩
end
theorem new3_0 (w : World) (o1 o2 o3 : Obj) : ((((w.alloc o1).alloc o2).alloc o3).drew).heap[w.heap.size]? = some o1 :=
  (Below.heap_alloc _ o3 _ (by simp; omega)).trans ((Below.heap_alloc _ o2 _ (by simp)).trans (heap_alloc_new w o1))
theorem new3_1 (w : World) (o1 o2 o3 : Obj) : ((((w.alloc o1).alloc o2).alloc o3).drew).heap[w.heap.size + 1]? = some o2 := by
  have h := heap_alloc_new (w.alloc o1) o2
  rw [World.size_alloc] at h
  exact (Below.heap_alloc _ o3 _ (by simp)).trans h
theorem new3_2 (w : World) (o1 o2 o3 : Obj) : ((((w.alloc o1).alloc o2).alloc o3).drew).heap[w.heap.size + 1 + 1]? = some o3 := by
  have h := heap_alloc_new ((w.alloc o1).alloc o2) o3
  rw [World.size_alloc, World.size_alloc] at h
  exact h
theorem arr_of_block {w : World} {g n : Nat} {t : TypeId} {z : Value} (h : w.heap[g]? = some (.cells (zeros z n) t (0, 0))) : Arr w g n (fun _ => z) := fun j hj => by
  constructor
  · simp [World.cell?, h, zeros_get z hj]
  · simp [World.frozen?, h]
theorem LookW.start {X : Bas} {pl : Pl} {R : List Rt} {w w1 wx : World} {br bl bt bd : Nat} {FL : Nat → Value} {t1 t2 t3 : TypeId} (hd : wx.heap[bd]? = some (.cells #[.slice (some ⟨br, 0, none⟩) R.length R.length, .slice (some ⟨bl, 0, none⟩) pl.length pl.length, .slice (some ⟨bt, 0, none⟩) pl.length pl.length] t1 (0, 0)))
    (hr : wx.heap[br]? = some (.cells (zeros (.slice none 0 0) R.length) t2 (0, 0))) (ht : wx.heap[bt]? = some (.cells (zeros (.int .i64 0) pl.length) t3 (0, 0))) (hb : Below w1.heap.size w1 wx) (hL : Arr w1 bl pl.length FL) (hX : BoxB w1 w.heap.size X pl) (hT : Arr w1 (w.heap.size + 1) 3 (fun _ => .slice none 0 0)) (hB : Below w.heap.size w w1)
    (ne : br ≠ bt ∧ br ≠ bd ∧ bt ≠ bd) (lo : w1.heap.size ≤ br ∧ w1.heap.size ≤ bt ∧ w1.heap.size ≤ bd) (h1 : bl < w1.heap.size) (h2 : w.heap.size + 1 < bl) : LookW X pl R w br bl bt bd (fun _ => .slice none 0 0) FL (fun _ => .int .i64 0) wx := by
  have lt : ∀ {b : Nat} {o : Obj}, wx.heap[b]? = some o → b < wx.heap.size := fun {b o} h => by
    rcases Nat.lt_or_ge b wx.heap.size with g | g
    · exact g
    · rw [Array.getElem?_eq_none g] at h; cases h
  refine ⟨by simp [World.cell?, hd], by simp [World.cell?, hd], by simp [World.cell?, hd], arr_of_block hr, hL.below hb h1, arr_of_block ht, by omega, by omega, ⟨lt hr, ?_, lt ht, lt hd⟩, hX.below hb (by omega), hT.below hb (by omega), hB.trans (hb.mono hB.size)⟩
  have := hb.size; omega
/-- The first rows are the reaches; what they lie in is at or above M. -/
def RowsW (pl : Pl) (R : List Rt) (M : Nat) (FB : Nat → Value) (k : Nat) (wr : World) : Prop := ∀ i, i < k → ∃ C cc, FB i = .slice C (rcR pl R i).length cc ∧ IntsAt wr wr.heap.size C (natsI (rcR pl R i)) ∧ ∀ a, C = some a → M ≤ a.block
section
variable {pl : Pl} {R : List Rt} {M k : Nat} {FB : Nat → Value} {wr w1 : World}
theorem RowsW.zero : RowsW pl R M FB 0 wr := fun i hi => absurd hi (Nat.not_lt_zero _)
theorem RowsW.go (h : RowsW pl R M FB k wr) (hb : Below wr.heap.size wr w1) : RowsW pl R M FB k w1 := fun i hi => by
  obtain ⟨C, cc, e, h1, h2⟩ := h i hi
  exact ⟨C, cc, e, (h1.below hb).more hb.size, h2⟩
theorem RowsW.far (h : RowsW pl R M FB k wr) {p : Addr} (hp : p.block < M) (u : Value) : RowsW pl R M FB k (wr.setCell p u) := fun i hi => by
  obtain ⟨C, cc, e, h1, h2⟩ := h i hi
  refine ⟨C, cc, e, ?_, h2⟩
  have := h1.far (p := p) (fun a ha => by have := h2 a ha; omega) u
  simpa using this
theorem RowsW.add (h : RowsW pl R M FB k wr) {C : Option Addr} {cc : Nat} (hI : IntsAt wr wr.heap.size C (natsI (rcR pl R k))) (hF : ∀ a, C = some a → M ≤ a.block) : RowsW pl R M (updF FB k (.slice C (rcR pl R k).length cc)) (k + 1) wr := fun i hi => by
  by_cases e : i = k
  · subst e
    exact ⟨C, cc, by unfold updF; rw [if_pos rfl], hI, hF⟩
  · obtain ⟨C', cc', e', h1, h2⟩ := h i (by omega)
    exact ⟨C', cc', by unfold updF; rw [if_neg e]; exact e', h1, h2⟩
end
def lefW (pl : Pl) (R : List Rt) (S : List Int) (G : List (Int × Int)) (k q : Nat) : Int := leftW pl R (supF S) S.length G k q
def lefV (pl : Pl) (R : List Rt) (S : List Int) (G : List (Int × Int)) (k : Nat) : Nat → Value := fun q => .int .i64 (lefW pl R S G k q)
def lasV (pl : Pl) (R : List Rt) (G : List (Int × Int)) (k : Nat) : Nat → Value := fun q => .int .i64 (lastW pl R G k q)
def lefM (pl : Pl) (R : List Rt) (S : List Int) (G : List (Int × Int)) (k : Nat) (g : Int) (l : List Nat) : Nat → Value := fun q => .int .i64 (if q ∈ l then wrap64 (lefW pl R S G k q - g) else lefW pl R S G k q)
def lasM (pl : Pl) (R : List Rt) (G : List (Int × Int)) (k : Nat) (g : Int) (l : List Nat) : Nat → Value := fun q => .int .i64 (if q ∈ l ∧ 0 < g then (k : Int) else lastW pl R G k q)
section
variable {pl : Pl} {R : List Rt} {S : List Int} {G : List (Int × Int)} {k : Nat} {g : Int}
theorem lefM_nil : lefM pl R S G k g [] = lefV pl R S G k := by funext q; unfold lefM lefV; rw [if_neg (by simp)]
theorem lasM_nil : lasM pl R G k g [] = lasV pl R G k := by funext q; unfold lasM lasV; rw [if_neg (by simp)]
theorem lefM_all (hk : k < G.length) (hg : gotG G k = g) : lefM pl R S G k g (rcR pl R k) = lefV pl R S G (k + 1) := by
  funext q; unfold lefM lefV
  congr 1
  show _ = (if _ then _ else _)
  by_cases h : q ∈ rcR pl R k
  · rw [if_pos h, if_pos ⟨h, hk⟩, hg]; rfl
  · rw [if_neg h, if_neg (fun e => h e.1)]; rfl
theorem lasM_all (hk : k < G.length) (hg : gotG G k = g) : lasM pl R G k g (rcR pl R k) = lasV pl R G (k + 1) := by
  funext q; unfold lasM lasV
  congr 1
  show _ = (if _ then _ else _)
  by_cases h : q ∈ rcR pl R k ∧ 0 < g
  · rw [if_pos h, if_pos ⟨h.1, hk, by rw [hg]; exact h.2⟩]
  · rw [if_neg h, if_neg (fun e => h ⟨e.1, by rw [← hg]; exact e.2.2⟩)]
theorem lefV_far (hk : ¬ k < G.length) : lefV pl R S G k = lefV pl R S G (k + 1) := by
  funext q; unfold lefV; congr 1
  show _ = (if _ then _ else _)
  rw [if_neg (fun e => hk e.2)]; rfl
theorem lasV_far (hk : ¬ k < G.length) : lasV pl R G k = lasV pl R G (k + 1) := by
  funext q; unfold lasV; congr 1
  show _ = (if _ then _ else _)
  rw [if_neg (fun e => hk e.2.1)]
theorem lefM_new {l : List Nat} {q : Nat} (h : q ∉ l) : lefM pl R S G k g l q = .int .i64 (lefW pl R S G k q) := by unfold lefM; rw [if_neg h]
theorem lefM_snoc (l : List Nat) (q j : Nat) : updF (lefM pl R S G k g l) q (.int .i64 (wrap64 (lefW pl R S G k q - g))) j = lefM pl R S G k g (l ++ [q]) j := by
  unfold updF lefM
  by_cases h : j = q
  · subst h; simp
  · rw [if_neg h]; simp [h]
theorem lasM_snoc (h0 : 0 < g) (l : List Nat) (q j : Nat) : updF (lasM pl R G k g l) q (.int .i64 (k : Int)) j = lasM pl R G k g (l ++ [q]) j := by
  unfold updF lasM
  by_cases h : j = q
  · subst h; simp [h0]
  · rw [if_neg h]; simp [h]
theorem lasM_dry (h0 : ¬ 0 < g) (l m : List Nat) : lasM pl R G k g l = lasM pl R G k g m := by
  funext q; unfold lasM; rw [if_neg (fun e => h0 e.2), if_neg (fun e => h0 e.2)]
end
/-- What look leaves: the rows of reaches, what is left, the last right that reaches a place; all below M. -/
structure LookAt (pl : Pl) (R : List Rt) (S : List Int) (G : List (Int × Int)) (br bl bt M : Nat) (w : World) : Prop where
  rows : ∀ i, i < R.length → ∃ C cc, w.cell? ⟨br, i, none⟩ = some (.slice C (rcR pl R i).length cc) ∧ IntsAt w M C (natsI (rcR pl R i))
  left : ∀ q, q < pl.length → w.cell? ⟨bl, q, none⟩ = some (.int .i64 (lefW pl R S G R.length q))
  last : ∀ q, q < pl.length → w.cell? ⟨bt, q, none⟩ = some (.int .i64 (lastW pl R G R.length q))
  lt : br < M ∧ bl < M ∧ bt < M
theorem LookAt.below {pl : Pl} {R : List Rt} {S : List Int} {G : List (Int × Int)} {br bl bt M : Nat} {w w1 : World} (h : LookAt pl R S G br bl bt M w) (hb : Below M w w1) : LookAt pl R S G br bl bt M w1 := by
  obtain ⟨h1, h2, h3⟩ := h.lt
  refine ⟨fun i hi => ?_, fun q hq => (hb.cell (p := ⟨bl, q, none⟩) h2).trans (h.left q hq), fun q hq => (hb.cell (p := ⟨bt, q, none⟩) h3).trans (h.last q hq), h.lt⟩
  obtain ⟨C, cc, e, hI⟩ := h.rows i hi
  exact ⟨C, cc, (hb.cell (p := ⟨br, i, none⟩) h1).trans e, hI.below hb⟩
def LookIs (pl : Pl) (R : List Rt) (S : List Int) (G : List (Int × Int)) (w : World) (e : Ending) (w' : World) : Prop :=
  ∃ br bl bt, e = .returned (.agg #[.slice (some ⟨br, 0, none⟩) R.length R.length, .slice (some ⟨bl, 0, none⟩) pl.length pl.length, .slice (some ⟨bt, 0, none⟩) pl.length pl.length]) ∧ LookAt pl R S G br bl bt w'.heap.size w' ∧ Below w.heap.size w w'
theorem LookAt.of {pl : Pl} {R : List Rt} {S : List Int} {G : List (Int × Int)} {br bl bt M : Nat} {w : World} {FB : Nat → Value} (aB : Arr w br R.length FB) (hR : RowsW pl R M FB R.length w) (aL : Arr w bl pl.length (lefV pl R S G R.length)) (aT : Arr w bt pl.length (lasV pl R G R.length)) (lt : br < w.heap.size ∧ bl < w.heap.size ∧ bt < w.heap.size) : LookAt pl R S G br bl bt w.heap.size w := by
  refine ⟨fun i hi => ?_, fun q hq => (aL q hq).1, fun q hq => (aT q hq).1, lt⟩
  obtain ⟨C, cc, e, hI, _⟩ := hR i hi
  exact ⟨C, cc, by rw [(aB i hi).1, e], hI⟩
theorem LookW.finish {X : Bas} {pl : Pl} {R : List Rt} {S : List Int} {G : List (Int × Int)} {w wr : World} {br bl bt bd M : Nat} {FB : Nat → Value} (h : LookW X pl R w br bl bt bd FB (lefV pl R S G R.length) (lasV pl R G R.length) wr) (hR : RowsW pl R M FB R.length wr) (hM : w.heap.size + 1 < M) (v0 v1 v2 : Value) :
    LookAt pl R S G br bl bt wr.heap.size (((wr.setCell ⟨w.heap.size + 1, 0, none⟩ v0).setCell ⟨w.heap.size + 1, 1, none⟩ v1).setCell ⟨w.heap.size + 1, 2, none⟩ v2) ∧ Below w.heap.size w (((wr.setCell ⟨w.heap.size + 1, 0, none⟩ v0).setCell ⟨w.heap.size + 1, 1, none⟩ v1).setCell ⟨w.heap.size + 1, 2, none⟩ v2) := by
  obtain ⟨l1, l2, l3, _⟩ := h.lo
  have key : ∀ (wx : World) (j : Nat) (v : Value), (Arr wx br R.length FB ∧ RowsW pl R M FB R.length wx ∧ Arr wx bl pl.length (lefV pl R S G R.length) ∧ Arr wx bt pl.length (lasV pl R G R.length)) →
      (Arr (wx.setCell ⟨w.heap.size + 1, j, none⟩ v) br R.length FB ∧ RowsW pl R M FB R.length (wx.setCell ⟨w.heap.size + 1, j, none⟩ v) ∧ Arr (wx.setCell ⟨w.heap.size + 1, j, none⟩ v) bl pl.length (lefV pl R S G R.length) ∧ Arr (wx.setCell ⟨w.heap.size + 1, j, none⟩ v) bt pl.length (lasV pl R G R.length)) :=
    fun wx j v ⟨a, b, c, d⟩ => ⟨a.far (p := ⟨w.heap.size + 1, j, none⟩) (by show br ≠ w.heap.size + 1; omega) v, b.far (p := ⟨w.heap.size + 1, j, none⟩) hM v, c.far (p := ⟨w.heap.size + 1, j, none⟩) (by show bl ≠ w.heap.size + 1; omega) v, d.far (p := ⟨w.heap.size + 1, j, none⟩) (by show bt ≠ w.heap.size + 1; omega) v⟩
  obtain ⟨a, b, c, d⟩ := key _ 2 v2 (key _ 1 v1 (key _ 0 v0 ⟨h.aB, hR, h.aL, h.aT⟩))
  refine ⟨?_, ((h.below.setCell (p := ⟨w.heap.size + 1, 0, none⟩) (by show w.heap.size ≤ w.heap.size + 1; omega) _).setCell (p := ⟨w.heap.size + 1, 1, none⟩) (by show w.heap.size ≤ w.heap.size + 1; omega) _).setCell (p := ⟨w.heap.size + 1, 2, none⟩) (by show w.heap.size ≤ w.heap.size + 1; omega) _⟩
  have := LookAt.of a b c d (by simpa using ⟨h.hi.1, h.hi.2.1, h.hi.2.2.1⟩)
  simpa using this
end Go.Proofs.YtkbceeobnbbfbaaDoor

/- Walks of both Futile and of the reference's Left. -/
namespace Go.Proofs.YtkbceeobnbbfbaaDoor
open Go.RowKit CM
attribute [local go_sem] alloc_drewN setCell_drewN shape_drewN

theorem gotI_nat (G : List (Int × Int)) (k : Nat) : gotI G (k : Int) = gotG G k := by unfold gotI; rw [if_pos (by omega), Int.toNat_natCast]
theorem reach_len (pl : Pl) (p : Int) : (reach pl p).length ≤ pl.length := nodup_len _ _ (reach_nodup _ _) (fun _ h => reach_lt h)
def futF (pl : Pl) (s : Int) (p : Int) : Bool := isPl pl s && !hasI (natsI (reach pl p)) s
set_option maxHeartbeats 2000000 in
theorem futile_any (X : Bas) (pl : Pl) (s : Int) (r : Rt) (w : World) {B : Nat} (hP : PlacesAt w B X.P pl) (hB : B ≤ w.heap.size) (hl : pl.length ≤ 1000000) :
    Calls Tryd.prog 16 #[.agg #[.string X.nm, .slice X.a1 X.l1 X.c1, .int .i64 X.cl, .slice X.P pl.length X.cP, .slice X.a4 X.l4 X.c4, .slice X.a5 X.l5 X.c5, .slice X.a6 X.l6 X.c6, .slice X.a7 X.l7 X.c7, .slice X.a8 X.l8 X.c8, .slice X.a9 X.l9 X.c9, .int .i64 X.er], .int .i64 s, .agg #[.int .i64 r.id, .int .i64 r.owner, .int .i64 r.date, .int .i64 r.place, .int .i64 r.rate, .int .i64 r.from1, .int .i64 r.until1, .int .i64 r.back, .int .i64 r.backTo]] w (BoolIs (futF pl s r.place) w) := by
  have K1 := Lib.hid (fun (p : Int) (wx : World) (h : Below w.heap.size w wx) => reach_any X pl p wx (hP.below (h.mono hB)) (by have := h.size; omega) hl)
  have K2 := Lib.hid (fun wx => cisPlace_any X pl s wx (by omega))
  have K0 := Lib.hid (fun (l : List Nat) (C : Option Addr) (cc : Nat) (wx : World) (D : Nat) (hq : IntsAt wx D C (natsI l)) (hl : (natsI l).length ≤ 9223372036854775807) => contains_any (natsI l) C cc s wx hq hl)
  have hln := reach_len pl r.place
  cases hp : isPl pl s
  · have hF : Hid (futF pl s r.place = false) := by show _ = _; unfold futF; rw [hp]; rfl
    have K3 := K2.out
    unfold BoolIs at K3
    rw [hp] at K3
    have K3 := Lib.hid K3
    clear hp K2 K1 K0
    go_enter Tryd.func16, Tryd.ntmps16
    go_wp2_with (first | (go_at_call 30; ((with_reducible refine (K3.out _).mono ?_); rintro e1 w1 ⟨rfl, hb1⟩)) | fail)
    go_ret
    exact ⟨ret_bool hF.out.symm, (((Below.refl _ _).alloc (Nat.le_refl _) _).alloc (by simp) _).trans (hb1.mono (by simp; omega))⟩
  · have hF : Hid (futF pl s r.place = !hasI (natsI (reach pl r.place)) s) := by show _ = _; unfold futF; rw [hp]; rfl
    have K3 := K2.out
    unfold BoolIs at K3
    rw [hp] at K3
    have K3 := Lib.hid K3
    clear hp K2
    go_enter Tryd.func16, Tryd.ntmps16
    go_wp2_with (first | (go_at_call 30; ((with_reducible refine (K3.out _).mono ?_); rintro e1 w1 ⟨rfl, hb1⟩; have kc := (bcell hb1).1; have hB1 := (((Below.refl _ _).alloc (Nat.le_refl _) _).alloc (by simp) _).trans (hb1.mono (by simp; omega)))) | (go_at_call 23; ((with_reducible refine (K1.out _ _ hB1).mono ?_); rintro e2 w2 ⟨E, ee, rfl, hI, hFr, hb2⟩; have K4 := K0.out (reach pl r.place) E ee w2 _ hI (by rw [natsI_len]; omega); unfold BoolEq at K4; rw [natsI_len] at K4; have K4 := Lib.hid K4)) | (go_at_call 31; ((with_reducible refine K4.out.mono ?_); rintro e3 w3 ⟨rfl, rfl⟩)) | fail)
    go_ret
    exact ⟨ret_bool hF.out.symm, hB1.trans (hb2.mono hB1.size)⟩
def leftN (pl : Pl) (R : List Rt) (S : List Int) (G : List (Int × Int)) (k q : Nat) : Int := leftR pl R (supF S) S.length G k q
theorem leftN_yes {pl : Pl} {R : List Rt} {S : List Int} {G : List (Int × Int)} {k q : Nat} (h : q ∈ rcR pl R k) : leftN pl R S G (k + 1) q = wrap64 (leftN pl R S G k q - gotG G k) := by
  show (if _ then _ else _) = _; rw [if_pos h]; rfl
theorem leftN_no {pl : Pl} {R : List Rt} {S : List Int} {G : List (Int × Int)} {k q : Nat} (h : q ∉ rcR pl R k) : leftN pl R S G (k + 1) q = leftN pl R S G k q := by
  show (if _ then _ else _) = _; rw [if_neg h]; rfl
def IntBe (n : Int) (w : World) (e : Ending) (w' : World) : Prop := e = .returned (.int .i64 n) ∧ Below w.heap.size w w'
end Go.Proofs.YtkbceeobnbbfbaaDoor

/- The walk of look. -/
namespace Go.Proofs.YtkbceeobnbbfbaaDoor
open Go.RowKit CM
attribute [local go_sem] alloc_drewN setCell_drewN shape_drewN

theorem Tryd.infoInts : (Tryd.prog.info? 29).map (fun i => (i.zero, i.size, i.bytes)) = some (some (.slice none 0 0), 1, 24) := by kernel_rfl
set_option maxRecDepth 100000 in
set_option maxHeartbeats 8000000 in
theorem look_any (X : Bas) (pl : Pl) (R : List Rt) (S : List Int) (G : List (Int × Int)) (C : Option Addr) (cr : Nat) (E : Option Addr) (cs : Nat) (D : Option Addr) (cg : Nat) (w : World) {B : Nat} (hP : PlacesAt w B X.P pl) (hR : RightsAt w B C R) (hE : IntsAt w B E S) (hG : PairsAt w B D G) (hB : B ≤ w.heap.size)
    (hl : pl.length ≤ 1000000) (hr : R.length ≤ 1000000) (hg : G.length ≤ 1000000) (hs : S.length ≤ 9223372036854775807) (hS : ∀ x ∈ S, In64 x) :
    Calls Tryd.prog 26 #[.agg #[.string X.nm, .slice X.a1 X.l1 X.c1, .int .i64 X.cl, .slice X.P pl.length X.cP, .slice X.a4 X.l4 X.c4, .slice X.a5 X.l5 X.c5, .slice X.a6 X.l6 X.c6, .slice X.a7 X.l7 X.c7, .slice X.a8 X.l8 X.c8, .slice X.a9 X.l9 X.c9, .int .i64 X.er], .slice C R.length cr, .slice E S.length cs, .slice D G.length cg] w (LookIs pl R S G w) := by
  obtain ⟨i0, hi, hz0, hz1, hz2⟩ := info_parts Tryd.infoInt
  obtain ⟨i1, ki, kz0, kz1, kz2⟩ := info_parts Tryd.infoInts
  have hmk := fun wx => run_make1 (P := Tryd.prog) 29 3 i0 (.int .i64 0) Tryd.underlying29 hi hz0 hz1 rfl pl.length pl.length (Nat.le_refl _) (by rw [hz2]; omega) (by omega) wx
  have hmk2 := fun wx => run_make1 (P := Tryd.prog) 70 29 i1 (.slice none 0 0) Tryd.underlying70 ki kz0 kz1 rfl R.length R.length (Nat.le_refl _) (by rw [kz2]; omega) (by omega) wx
  have K0 : Hid (∀ (wx : World), Below w.heap.size w wx → Calls Tryd.prog 7 #[.agg #[.string X.nm, .slice X.a1 X.l1 X.c1, .int .i64 X.cl, .slice X.P pl.length X.cP, .slice X.a4 X.l4 X.c4, .slice X.a5 X.l5 X.c5, .slice X.a6 X.l6 X.c6, .slice X.a7 X.l7 X.c7, .slice X.a8 X.l8 X.c8, .slice X.a9 X.l9 X.c9, .int .i64 X.er], .slice none 0 0, .slice E S.length cs] wx (DayIs pl [] S wx)) := fun wx h => day_any X pl [] S none 0 E cs wx (B := B) (hP.below (h.mono hB)) (fun h => absurd h (by simp)) (hE.below (h.mono hB)) (by have := h.size; omega) hl (by simp) hs hS
  have K1 := Lib.hid (fun (p : Int) (wx : World) (h : Below w.heap.size w wx) => reach_any X pl p wx (hP.below (h.mono hB)) (by have := h.size; omega) hl)
  have HP := Lib.hid hP
  clear hP
  go_enter Tryd.func26, Tryd.ntmps26
  go_upto_region 2 with (first | (go_at_call 7; ((with_reducible refine (K0.out _ (((Below.refl _ _).alloc (Nat.le_refl _) _).alloc (by simp) _)).mono ?_); rintro e1 w1 ⟨v, rfl, hrowx, hA1, hb1, hz1⟩)) | fail)
  have kc := (bcell hb1).1
  have hzb : w.heap.size + 1 + 1 + 1 + 1 + 1 ≤ w1.heap.size := by simpa using hz1
  have hA1' : Arr w1 (w.heap.size + 1 + 1 + 1 + 1) pl.length (lefV pl R S G 0) := by have := hA1; simp only [World.size_alloc] at this; exact this
  have hX1 : BoxB w1 w.heap.size X pl := ((BoxB.new w X pl).below (B := w.heap.size + 1) ((Below.refl _ _).alloc (by simp) _) (by omega)).below (B := w.heap.size + 1 + 1) (hb1.mono (by simp)) (by omega)
  have hT1 : Arr w1 (w.heap.size + 1) 3 (fun _ => .slice none 0 0) := fun j hj => by
    have hf := (bcell hb1).2
    match j, hj with
    | 0, _ => constructor <;> go_simp
    | 1, _ => constructor <;> go_simp
    | 2, _ => constructor <;> go_simp
  have hB1 : Below w.heap.size w w1 := (((Below.refl _ _).alloc (Nat.le_refl _) _).alloc (by simp) _).trans (hb1.mono (by simp; omega))
  obtain ⟨x0, x1, x2, x3, x4, x5, x6, x7, x8, x9, x10⟩ := hX1.cells
  have hzw : w.heap.size < w1.heap.size := by omega
  have zg : ∀ (z : Value) (n i : Nat), i < n → (zeros z n)[i]? = some z := fun z n i h => zeros_get z h
  clear hA1 hrowx hz1 K0 kc hb1
  go_cut [11] from 18 to 97 (fun s11 wx => ∃ br bt bd, s11 = .pointer (some ⟨bd, 0, none⟩) ∧ LookW X pl R w br (w.heap.size + 1 + 1 + 1 + 1) bt bd (fun _ => .slice none 0 0) (lefV pl R S G 0) (fun _ => .int .i64 0) wx)
  case first =>
    refine Plan.wp_region_tree (.rd 0 (.rd 1 (.rd 3 (.rd 4 (.rd 5 (.rd 6 (.three 2 (.two 7 (.rd 8 (.wr 9 (.wr 10 .done))) 9 (.wr 7 (.rd 8 (.wr 10 .done)))) 7 (.two 2 (.rd 8 (.wr 9 (.wr 10 .done))) 9 (.wr 2 (.rd 8 (.wr 10 .done)))) 9 (.two 2 (.wr 7 (.rd 8 (.wr 10 .done))) 7 (.wr 2 (.rd 8 (.wr 10 .done))))))))))) (by kernel_rfl) (by kernel_rfl) ?_
    (repeat (first | (refine Plan.tree_read (v := ?_) rfl rfl ?_ ?_; rotate_left; (focus ((intro wS hSw; have hkS := (bcell hSw).1; try (have hkT := fun (b o : Nat) (h : b < w.heap.size) => hkS b o (by first | omega | (simp; omega) | (simp; done))); go_simp); try with_reducible rfl)); simp only [Act.put, List.setIfInBounds_toArray, List.set_cons_zero, List.set_cons_succ]) | (refine Plan.tree_skip rfl rfl ?_; simp only [Act.put, List.setIfInBounds_toArray, List.set_cons_zero, List.set_cons_succ])))
    refine Plan.tree_three rfl rfl rfl (fun K hK => ?_) (fun K hK => ?_) (fun K hK => ?_)
    all_goals
      (try go_simp)
      refine hK.out _ _ ?_ ?_
      · (repeat (first | exact Below.refl _ _ | assumption | refine Below.drew ?_ | refine Below.alloc ?_ (by simp <;> omega) _ | refine Below.setCell ?_ (by simp <;> omega) _))
      clear hK K
      try simp only [Act.put, List.setIfInBounds_toArray, List.set_cons_zero, List.set_cons_succ]
      (repeat (first | (refine Plan.tree_read (v := ?_) rfl rfl ?_ ?_; rotate_left; (focus ((intro wS hSw; have hkS := (bcell hSw).1; try (have hkT := fun (b o : Nat) (h : b < w.heap.size) => hkS b o (by first | omega | (simp; omega) | (simp; done))); go_simp); try with_reducible rfl)); simp only [Act.put, List.setIfInBounds_toArray, List.set_cons_zero, List.set_cons_succ]) | (refine Plan.tree_skip rfl rfl ?_; simp only [Act.put, List.setIfInBounds_toArray, List.set_cons_zero, List.set_cons_succ])))
      refine Plan.tree_two rfl rfl (fun K hK => ?_) (fun K hK => ?_)
    all_goals
      (try go_simp)
      refine hK.out _ _ ?_ ?_
      · (repeat (first | exact Below.refl _ _ | assumption | refine Below.drew ?_ | refine Below.alloc ?_ (by simp <;> omega) _ | refine Below.setCell ?_ (by simp <;> omega) _))
      clear hK K
      try simp only [Act.put, List.setIfInBounds_toArray, List.set_cons_zero, List.set_cons_succ]
      (repeat (first | (refine Plan.tree_read (v := ?_) rfl rfl ?_ ?_; rotate_left; (focus ((intro wS hSw; have hkS := (bcell hSw).1; try (have hkT := fun (b o : Nat) (h : b < w.heap.size) => hkS b o (by first | omega | (simp; omega) | (simp; done))); go_simp); try with_reducible rfl)); simp only [Act.put, List.setIfInBounds_toArray, List.set_cons_zero, List.set_cons_succ]) | (refine Plan.tree_skip rfl rfl ?_; simp only [Act.put, List.setIfInBounds_toArray, List.set_cons_zero, List.set_cons_succ])))
      (refine Plan.tree_write rfl (fun K hK => ?_); try go_simp)
      refine hK.out _ _ ?_ ?_
      · (repeat (first | exact Below.refl _ _ | assumption | refine Below.drew ?_ | refine Below.alloc ?_ (by simp <;> omega) _ | refine Below.setCell ?_ (by simp <;> omega) _))
      clear hK K
      try simp only [Act.put, List.setIfInBounds_toArray, List.set_cons_zero, List.set_cons_succ]
      (repeat (first | (refine Plan.tree_read (v := ?_) rfl rfl ?_ ?_; rotate_left; (focus ((intro wS hSw; have hkS := (bcell hSw).1; try (have hkT := fun (b o : Nat) (h : b < w.heap.size) => hkS b o (by first | omega | (simp; omega) | (simp; done))); go_simp); try with_reducible rfl)); simp only [Act.put, List.setIfInBounds_toArray, List.set_cons_zero, List.set_cons_succ]) | (refine Plan.tree_skip rfl rfl ?_; simp only [Act.put, List.setIfInBounds_toArray, List.set_cons_zero, List.set_cons_succ])))
      (refine Plan.tree_write rfl (fun K hK => ?_); try go_simp)
      refine hK.out _ _ ?_ ?_
      · (repeat (first | exact Below.refl _ _ | assumption | refine Below.drew ?_ | refine Below.alloc ?_ (by simp <;> omega) _ | refine Below.setCell ?_ (by simp <;> omega) _))
      clear hK K
      try simp only [Act.put, List.setIfInBounds_toArray, List.set_cons_zero, List.set_cons_succ]
      refine Plan.tree_done ?_
      go_wp2_with fail
      go_meet
      first
        | exact ⟨w1.heap.size, w1.heap.size + 1, w1.heap.size + 1 + 1, rfl, LookW.start (new3_2 _ _ _ _) (new3_0 _ _ _ _) (new3_1 _ _ _ _) ((((Below.refl _ _).alloc (Nat.le_refl _) _).alloc (by simp) _).alloc (by simp; omega) _).drew hA1' hX1 hT1 hB1 (by omega) (by omega) (by omega) (by omega)⟩
        | exact ⟨w1.heap.size, w1.heap.size + 1 + 1, w1.heap.size + 1, rfl, LookW.start (new3_1 _ _ _ _) (new3_0 _ _ _ _) (new3_2 _ _ _ _) ((((Below.refl _ _).alloc (Nat.le_refl _) _).alloc (by simp) _).alloc (by simp; omega) _).drew hA1' hX1 hT1 hB1 (by omega) (by omega) (by omega) (by omega)⟩
        | exact ⟨w1.heap.size + 1, w1.heap.size, w1.heap.size + 1 + 1, rfl, LookW.start (new3_2 _ _ _ _) (new3_1 _ _ _ _) (new3_0 _ _ _ _) ((((Below.refl _ _).alloc (Nat.le_refl _) _).alloc (by simp) _).alloc (by simp; omega) _).drew hA1' hX1 hT1 hB1 (by omega) (by omega) (by omega) (by omega)⟩
        | exact ⟨w1.heap.size + 1, w1.heap.size + 1 + 1, w1.heap.size, rfl, LookW.start (new3_0 _ _ _ _) (new3_1 _ _ _ _) (new3_2 _ _ _ _) ((((Below.refl _ _).alloc (Nat.le_refl _) _).alloc (by simp) _).alloc (by simp; omega) _).drew hA1' hX1 hT1 hB1 (by omega) (by omega) (by omega) (by omega)⟩
        | exact ⟨w1.heap.size + 1 + 1, w1.heap.size, w1.heap.size + 1, rfl, LookW.start (new3_1 _ _ _ _) (new3_2 _ _ _ _) (new3_0 _ _ _ _) ((((Below.refl _ _).alloc (Nat.le_refl _) _).alloc (by simp) _).alloc (by simp; omega) _).drew hA1' hX1 hT1 hB1 (by omega) (by omega) (by omega) (by omega)⟩
        | exact ⟨w1.heap.size + 1 + 1, w1.heap.size + 1, w1.heap.size, rfl, LookW.start (new3_0 _ _ _ _) (new3_2 _ _ _ _) (new3_1 _ _ _ _) ((((Below.refl _ _).alloc (Nat.le_refl _) _).alloc (by simp) _).alloc (by simp; omega) _).drew hA1' hX1 hT1 hB1 (by omega) (by omega) (by omega) (by omega)⟩
        | fail
  case rest =>
    clear hA1' hX1 hT1 hB1 x0 x1 x2 x3 x4 x5 x6 x7 x8 x9 x10 zg
    obtain ⟨br, bt, bd, rfl, hW0⟩ := hcut
    have hc2 := hW0.c2
    obtain ⟨p1, p2, p3, p4⟩ := hW0.hi
    obtain ⟨q1, q2, q3, q4⟩ := hW0.lo
    go_wp2_with fail
    clear hc2
    go_loopw [35] (fun i wr => ∃ k : Nat, k ≤ pl.length ∧ i = .int .i64 k ∧ LookW X pl R w br (w.heap.size + 1 + 1 + 1 + 1) bt bd (fun _ => .slice none 0 0) (lefV pl R S G 0) (fun j => if j < k then .int .i64 (-1) else .int .i64 0) wr ∧ wc.heap.size ≤ wr.heap.size) (fun i _ => pl.length - (intOf i).toNat)
    case atStart => exact ⟨0, Nat.zero_le _, rfl, hW0.congr (fun _ _ => rfl) (fun _ _ => rfl) (fun _ _ => rfl), Nat.le_refl _⟩
    case round =>
      obtain ⟨k, hk, rfl, hW, hM⟩ := hrel
      have c2 := hW.c2
      by_cases hlt : k < pl.length
      · obtain ⟨a0, f0⟩ := hW.aT k hlt
        dsimp only at a0
        rw [if_neg (Nat.lt_irrefl k)] at a0
        have hWn := (hW.setT hlt (.int .i64 (-1))).congr (GB := fun _ => .slice none 0 0) (GL := lefV pl R S G 0) (GT := fun j => if j < k + 1 then .int .i64 (-1) else .int .i64 0) (fun _ _ => rfl) (fun _ _ => rfl) (fun j _ => by
          unfold updF
          by_cases e : j = k
          · rw [if_pos e, if_pos (by omega)]
          · rw [if_neg e]
            dsimp only
            by_cases g : j < k
            · rw [if_pos g, if_pos (by omega)]
            · rw [if_neg g, if_neg (by omega)])
        clear hW
        go_wp2_with fail
        go_roundw
        case rel => exact ⟨k + 1, by omega, by go_num, hWn, by simpa using hM⟩
        case measure => simp [intOf]; omega
      · have hke : k = pl.length := by omega
        subst hke
        have hWA := hW.congr (GB := fun _ => .slice none 0 0) (GL := lefV pl R S G 0) (GT := lasV pl R G 0) (fun _ _ => rfl) (fun _ _ => rfl) (fun j hj => by rw [if_pos hj]; rfl)
        clear hW
        go_wp2_with fail
        clear c2
        obtain ⟨wA, rfl⟩ : ∃ wA, wA = wr := ⟨_, rfl⟩
        go_loopw [45] (fun i wr => ∃ (k : Nat) (FB : Nat → Value), k ≤ R.length ∧ i = .int .i64 k ∧ LookW X pl R w br (w.heap.size + 1 + 1 + 1 + 1) bt bd FB (lefV pl R S G k) (lasV pl R G k) wr ∧ RowsW pl R wc.heap.size FB k wr ∧ wc.heap.size ≤ wr.heap.size) (fun i _ => R.length - (intOf i).toNat)
        case atStart => exact ⟨0, _, Nat.zero_le _, rfl, hWA, RowsW.zero, hM⟩
        case round =>
          clear hWA hM
          obtain ⟨k, FB, hk, rfl, hW, hRw, hM⟩ := hrel
          have c0 := hW.c0
          have c1 := hW.c1
          have c2 := hW.c2
          by_cases hlt : k < R.length
          case neg =>
            have hke : k = R.length := by omega
            subst hke
            obtain ⟨t0, f0⟩ := hW.t8 0 (by omega)
            obtain ⟨t1, f1⟩ := hW.t8 1 (by omega)
            obtain ⟨t2, f2⟩ := hW.t8 2 (by omega)
            have hfin := LookW.finish hW hRw (by omega)
            clear hW hRw
            go_wp2_with fail
            refine bodyPost_ret (v := .agg #[.slice (some ⟨br, 0, none⟩) R.length R.length, .slice (some ⟨w.heap.size + 1 + 1 + 1 + 1, 0, none⟩) pl.length pl.length, .slice (some ⟨bt, 0, none⟩) pl.length pl.length]) (by simp [results, Tryd.results26, go_sem, t0, t1, t2]) rfl ?_
            exact ⟨br, w.heap.size + 1 + 1 + 1 + 1, bt, rfl, by simpa using (hfin _ _ _).1, (hfin _ _ _).2⟩
          obtain ⟨s1, s2, s3, s4⟩ := hW.hi
          obtain ⟨x0, x1, x2, x3, x4, x5, x6, x7, x8, x9, x10⟩ := hW.box.cells
          obtain ⟨r, hx⟩ : ∃ r, R[k]? = some r := ⟨_, List.getElem?_eq_getElem hlt⟩
          obtain ⟨b, off, rfl, hb, r0, r1, r2, r3, r4, r5, r6, r7, r8⟩ := (RightsAt.below hR (hW.below.mono hB)).at_ hx
          have hrc : Hid (rcR pl R k = reach pl r.place) := by show _ = _; unfold rcR; rw [rtN_of hx]
          have hbw : b < wr.heap.size := by have := hW.below.size; omega
          have hzw : w.heap.size < wr.heap.size := by omega
          have hkb : (0 : Int) ≤ (k : Int) ∧ (k : Int) < (R.length : Int) := by omega
          have hln := reach_len pl r.place
          clear hx
          go_upto_region 11 with fail
          refine Plan.wp_region_below 8 [(0, true), (1, true), (2, true), (3, true), (4, true), (5, true), (6, false), (7, true), (8, false)] (by kernel_rfl) (by kernel_rfl) ?_
          (repeat (first | (refine Plan.plan_read (v := ?_) rfl rfl ?_ ?_; rotate_left; (focus ((intro wS hSw; have hkS := (bcell hSw).1; try (have hkT := fun (b o : Nat) (h : b < w.heap.size) => hkS b o (by first | omega | (simp; omega) | (simp; done))); go_simp); try with_reducible rfl)); simp only [Act.put, List.setIfInBounds_toArray, List.set_cons_zero, List.set_cons_succ]) | (refine Plan.plan_skip rfl rfl ?_; simp only [Act.put, List.setIfInBounds_toArray, List.set_cons_zero, List.set_cons_succ])))
          (refine Plan.plan_write rfl (fun K hK => ?_); try go_simp)
          go_at_call 23
          (with_reducible refine (K1.out _ _ ((hW.below.alloc (by omega) _).drew)).mono ?_)
          rintro e2 w2 ⟨E1, ee, rfl, hI, hFr, hb2⟩
          have kB := Plan.below_drew_go hb2
          have hb9 : Below wr.heap.size wr w2 := ((Below.refl _ _).alloc (Nat.le_refl _) _).trans (kB.mono (by simp))
          have hW2 := hW.go hb9
          obtain ⟨aB0, fB0⟩ := hW2.aB k hlt
          obtain ⟨n, hn⟩ : ∃ n : Nat, Hid ((reach pl r.place).length = n) := ⟨_, rfl⟩
          have hnl : n ≤ 1000000 := by have := hn.out; omega
          have hS := Plan.below_drew_go hb2
          rw [hn.out]
          (try go_simp)
          refine hK.out _ _ hS ?_
          clear hK K
          try simp only [Act.put, List.setIfInBounds_toArray, List.set_cons_zero, List.set_cons_succ]
          (repeat (first | (refine Plan.plan_read (v := ?_) rfl rfl ?_ ?_; rotate_left; (focus ((intro wS hSw; have hkS := (bcell hSw).1; try (have hkT := fun (b o : Nat) (h : b < w.heap.size) => hkS b o (by first | omega | (simp; omega) | (simp; done))); go_simp); try with_reducible rfl)); simp only [Act.put, List.setIfInBounds_toArray, List.set_cons_zero, List.set_cons_succ]) | (refine Plan.plan_skip rfl rfl ?_; simp only [Act.put, List.setIfInBounds_toArray, List.set_cons_zero, List.set_cons_succ])))
          (refine Plan.plan_last rfl (fun K hK => ?_); go_simp; refine hK.out _ _ ?_; clear hK K; try simp only [Act.put, List.setIfInBounds_toArray, List.set_cons_zero, List.set_cons_succ])
          have hM2 : wc.heap.size ≤ w2.heap.size := by have := hb9.size; omega
          have hF1 : ∀ a, E1 = some a → wc.heap.size ≤ a.block := fun a ha => by have := hFr a ha; simp at this; omega
          obtain ⟨FB1, hFB1⟩ : ∃ FB1, FB1 = updF FB k (.slice E1 n ee) := ⟨_, rfl⟩
          have hW3 : LookW X pl R w br (w.heap.size + 1 + 1 + 1 + 1) bt bd FB1 (lefV pl R S G k) (lasV pl R G k) (w2.setCell ⟨br, k, none⟩ (.slice E1 n ee)) := by rw [hFB1]; exact hW2.setB hlt _
          have hI3 : IntsAt (w2.setCell ⟨br, k, none⟩ (.slice E1 n ee)) (w2.setCell ⟨br, k, none⟩ (.slice E1 n ee)).heap.size E1 (natsI (reach pl r.place)) := by
            have := hI.far (p := ⟨br, k, none⟩) (fun a ha => by have := hF1 a ha; show a.block ≠ br; omega) (.slice E1 n ee)
            simpa using this
          have hR3 : RowsW pl R wc.heap.size FB1 (k + 1) (w2.setCell ⟨br, k, none⟩ (.slice E1 n ee)) := by
            rw [hFB1, ← hn.out, ← hrc.out]
            exact ((hRw.go hb9).far (p := ⟨br, k, none⟩) (by show br < wc.heap.size; omega) _).add (by rw [hrc.out, hn.out]; exact hI3) hF1
          have hM3 : wc.heap.size ≤ (w2.setCell ⟨br, k, none⟩ (.slice E1 n ee)).heap.size := by simpa using hM2
          have hFBk : Hid (FB1 k = .slice E1 n ee) := by show _ = _; rw [hFB1]; unfold updF; rw [if_pos rfl]
          clear hFB1 hW hRw hb2 hS kB hb9 hW2 aB0 fB0 hI hFr hM2 hM c0 c1 c2 x0 x1 x2 x3 x4 x5 x6 x7 x8 x9 x10
          generalize w2.setCell ⟨br, k, none⟩ (.slice E1 n ee) = w4 at hW3 hI3 hR3 hM3 ⊢
          by_cases hkg : k < G.length
          case neg =>
            have hW4 := hW3.congr (GB := FB1) (GL := lefV pl R S G (k + 1)) (GT := lasV pl R G (k + 1)) (fun _ _ => rfl) (fun j _ => by rw [lefV_far hkg]) (fun j _ => by rw [lasV_far hkg])
            have hkg2 : G.length ≤ k := by omega
            clear hW3
            go_wp2_with fail
            go_roundw
            case rel => exact ⟨k + 1, FB1, by omega, by go_num, hW4, hR3, hM3⟩
            case measure => simp [intOf]; omega
          obtain ⟨x, hy⟩ : ∃ x, G[k]? = some x := ⟨_, List.getElem?_eq_getElem hkg⟩
          obtain ⟨b2, off2, rfl, hb2, g0w, g1w⟩ := hG.at_ hy
          have hb2w : b2 < w.heap.size := by omega
          have g0w := Lib.hid g0w
          have g1w := Lib.hid g1w
          have hgt := Lib.hid (gotG_of hy)
          clear hy
          have hgI : ¬ (G.length : Int) ≤ (k : Int) := by omega
          have c0 := hW3.c0
          obtain ⟨a0, _⟩ := hW3.aB k hlt
          rw [hFBk.out] at a0
          go_wp2_with fail
          obtain ⟨wB, rfl⟩ : ∃ wB, wB = wr := ⟨_, rfl⟩
          go_loopw [68] (fun i wr => ∃ j : Nat, j ≤ n ∧ i = .int .i64 j ∧ LookW X pl R w br (w.heap.size + 1 + 1 + 1 + 1) bt bd FB1 (lefM pl R S G k x.2 ((reach pl r.place).take j)) (lasM pl R G k x.2 ((reach pl r.place).take j)) wr ∧ RowsW pl R wc.heap.size FB1 (k + 1) wr ∧ wc.heap.size ≤ wr.heap.size ∧ IntsAt wr wr.heap.size E1 (natsI (reach pl r.place))) (fun i _ => n - (intOf i).toNat)
          case atStart => exact ⟨0, Nat.zero_le _, rfl, hW3.congr (fun _ _ => rfl) (fun _ _ => by rw [List.take_zero, lefM_nil]) (fun _ _ => by rw [List.take_zero, lasM_nil]), hR3, hM3, hI3⟩
          case round =>
            clear hW3 hR3 hM3 hI3 c0 a0
            obtain ⟨j, hj, rfl, hW5, hR5, hM5, hI5⟩ := hrel
            by_cases hjl : j < n
            case neg =>
              have hje : j = (reach pl r.place).length := by rw [hn.out]; omega
              have hW6 := hW5.congr (GB := FB1) (GL := lefV pl R S G (k + 1)) (GT := lasV pl R G (k + 1)) (fun _ _ => rfl) (fun q _ => by rw [hje, List.take_length, ← hrc.out, lefM_all hkg hgt.out]) (fun q _ => by rw [hje, List.take_length, ← hrc.out, lasM_all hkg hgt.out])
              have hje2 : ¬ j < n := hjl
              have hje3 := Lib.hid hje
              clear hW5 hje hjl
              go_wp2_with fail
              go_roundw
              case rel => exact ⟨k + 1, FB1, by omega, by go_num, hW6, hR5, hM5⟩
              case measure => simp [intOf]; omega
            obtain ⟨q, hq⟩ : ∃ q, (reach pl r.place)[j]? = some q := ⟨_, List.getElem?_eq_getElem (by rw [hn.out]; exact hjl)⟩
            have hqn : q < pl.length := reach_lt (List.mem_of_getElem? hq)
            have hqt := take_new (reach_nodup pl r.place) hq
            have hqI : (natsI (reach pl r.place))[j]? = some (q : Int) := by unfold natsI; rw [List.getElem?_map, hq]; rfl
            have hFE : ∀ a, E1 = some a → wc.heap.size ≤ a.block := hF1
            obtain ⟨b5, off5, rfl, hb5, c5⟩ := hI5.at_ hqI
            have hb5M : wc.heap.size ≤ b5 := hFE _ rfl
            obtain ⟨u1, u2, u3, u4'⟩ := hW5.hi
            have c0 := hW5.c0
            have c1 := hW5.c1
            have c2 := hW5.c2
            obtain ⟨aL0, fL0⟩ := hW5.aL q hqn
            obtain ⟨aT0, fT0⟩ := hW5.aT q hqn
            rw [lefM_new hqt] at aL0
            obtain ⟨V, hV⟩ : ∃ V, V = lefW pl R S G k q := ⟨_, rfl⟩
            have g1 := (hW5.below.cell (p := ⟨b2, off2 + k * 2 + 1, none⟩) hb2w).trans g1w.out
            have hqI2 : (0 : Int) ≤ (q : Int) ∧ (q : Int) < (pl.length : Int) := by omega
            have hkI2 : (0 : Int) ≤ (k : Int) ∧ (k : Int) < (G.length : Int) := by omega
            have hb2z : b2 < wr.heap.size := by have := hW5.below.size; omega
            have hLn : LookW X pl R w br (w.heap.size + 1 + 1 + 1 + 1) bt bd FB1 (lefM pl R S G k x.2 ((reach pl r.place).take (j + 1))) (lasM pl R G k x.2 ((reach pl r.place).take j)) ((wr.setCell ⟨w.heap.size + 1 + 1 + 1 + 1, q, none⟩ (.int .i64 (wrap64 (V - x.2)))).drew) := by
              rw [hV]
              refine LookW.go ((hW5.setL hqn _).congr (fun _ _ => rfl) (fun i _ => ?_) (fun _ _ => rfl)) (Below.refl _ _).drew
              rw [take_snoc hq]
              exact lefM_snoc _ q i
            have hRn : RowsW pl R wc.heap.size FB1 (k + 1) ((wr.setCell ⟨w.heap.size + 1 + 1 + 1 + 1, q, none⟩ (.int .i64 (wrap64 (V - x.2)))).drew) := (hR5.far (p := ⟨w.heap.size + 1 + 1 + 1 + 1, q, none⟩) (by show w.heap.size + 1 + 1 + 1 + 1 < wc.heap.size; omega) _).go (Below.refl _ _).drew
            have hMn : wc.heap.size ≤ ((wr.setCell ⟨w.heap.size + 1 + 1 + 1 + 1, q, none⟩ (.int .i64 (wrap64 (V - x.2)))).drew).heap.size := by simpa using hM5
            have hIn : IntsAt ((wr.setCell ⟨w.heap.size + 1 + 1 + 1 + 1, q, none⟩ (.int .i64 (wrap64 (V - x.2)))).drew) ((wr.setCell ⟨w.heap.size + 1 + 1 + 1 + 1, q, none⟩ (.int .i64 (wrap64 (V - x.2)))).drew).heap.size (some ⟨b5, off5, none⟩) (natsI (reach pl r.place)) := by
              have := hI5.far (p := ⟨w.heap.size + 1 + 1 + 1 + 1, q, none⟩) (fun a ha => by obtain rfl := Option.some.inj ha; show b5 ≠ w.heap.size + 1 + 1 + 1 + 1; omega) (.int .i64 (wrap64 (V - x.2)))
              have := this.below (B := wr.heap.size) (Below.refl _ _).drew
              simpa using this
            have hTs : Hid (lasM pl R G k x.2 ((reach pl r.place).take j ++ [q]) = lasM pl R G k x.2 ((reach pl r.place).take (j + 1))) := by show _ = _; rw [take_snoc hq]
            rw [← hV] at aL0
            have HV := Lib.hid hV
            clear hV hqt hqI hq hW5 hR5 hM5 hI5 hF1 hFE
            go_upto_region 16 with fail
            refine Plan.wp_region_below 12 [(0, true), (1, true), (2, true), (3, true), (4, true), (5, true), (6, true), (7, true), (8, true), (9, true), (10, true), (11, true), (12, false)] (by kernel_rfl) (by kernel_rfl) ?_
            (repeat (first | (refine Plan.plan_read (v := ?_) rfl rfl ?_ ?_; rotate_left; (focus ((intro wS hSw; have hkS := (bcell hSw).1; try (have hkT := fun (b o : Nat) (h : b < w.heap.size) => hkS b o (by first | omega | (simp; omega) | (simp; done))); go_simp); try with_reducible rfl)); simp only [Act.put, List.setIfInBounds_toArray, List.set_cons_zero, List.set_cons_succ]) | (refine Plan.plan_skip rfl rfl ?_; simp only [Act.put, List.setIfInBounds_toArray, List.set_cons_zero, List.set_cons_succ])))
            (refine Plan.plan_last rfl (fun K hK => ?_); go_simp; refine hK.out _ _ ?_; clear hK K; try simp only [Act.put, List.setIfInBounds_toArray, List.set_cons_zero, List.set_cons_succ])
            rw [show IntKind.i64.wrap (V - x.2) = wrap64 (V - x.2) from IntWalk.i64_left _]
            generalize (wr.setCell ⟨w.heap.size + 1 + 1 + 1 + 1, q, none⟩ (.int .i64 (wrap64 (V - x.2)))).drew = w7 at hLn hRn hMn hIn ⊢
            clear c0 c1 c2 aL0 fL0 aT0 fT0 g1 c5
            have g1 := (hLn.below.cell (p := ⟨b2, off2 + k * 2 + 1, none⟩) hb2w).trans g1w.out
            have c2 := hLn.c2
            obtain ⟨aT0, fT0⟩ := hLn.aT q hqn
            by_cases h0 : 0 < x.2
            · have hLt := (hLn.setT hqn (.int .i64 (k : Int))).congr (GB := FB1) (GL := lefM pl R S G k x.2 ((reach pl r.place).take (j + 1))) (GT := lasM pl R G k x.2 ((reach pl r.place).take (j + 1))) (fun _ _ => rfl) (fun _ _ => rfl) (fun i _ => by rw [← hTs.out]; exact lasM_snoc h0 _ q i)
              have hRt := hRn.far (p := ⟨bt, q, none⟩) (by show bt < wc.heap.size; omega) (.int .i64 (k : Int))
              have hIt := hIn.far (p := ⟨bt, q, none⟩) (fun a ha => by obtain rfl := Option.some.inj ha; show b5 ≠ bt; omega) (.int .i64 (k : Int))
              clear hLn hRn hIn
              go_wp2_with fail
              go_roundw
              case rel => exact ⟨j + 1, by omega, by go_num, hLt, hRt, by simpa using hMn, by simpa using hIt⟩
              case measure => simp [intOf]; omega
            · have hLt := hLn.congr (GB := FB1) (GL := lefM pl R S G k x.2 ((reach pl r.place).take (j + 1))) (GT := lasM pl R G k x.2 ((reach pl r.place).take (j + 1))) (fun _ _ => rfl) (fun _ _ => rfl) (fun i _ => by rw [← hTs.out, lasM_dry h0])
              clear hLn
              go_wp2_with fail
              go_roundw
              case rel => exact ⟨j + 1, by omega, by go_num, hLt, hRn, hMn, hIn⟩
              case measure => simp [intOf]; omega
end Go.Proofs.YtkbceeobnbbfbaaDoor

/- Walks of stop, Stop. -/
namespace Go.Proofs.YtkbceeobnbbfbaaDoor
open Go.RowKit CM
attribute [local go_sem] alloc_drewN setCell_drewN shape_drewN

def stopP (pl : Pl) (R : List Rt) (S : List Int) (G : List (Int × Int)) (i : Nat) (q : Nat) : Bool := decide (lefW pl R S G R.length q ≤ 0) && decide (lastW pl R G R.length q ≤ i)
def stopN (pl : Pl) (R : List Rt) (S : List Int) (G : List (Int × Int)) (i : Nat) : Int := stopF pl R (supF S) S.length G i
theorem find_hit {l : List Nat} {p : Nat → Bool} {j q : Nat} (hn : ∀ x ∈ l.take j, p x = false) (hq : l[j]? = some q) (hp : p q = true) : l.find? p = some q := by
  have e : l = l.take j ++ q :: l.drop (j + 1) := by
    have hlt := (List.getElem?_eq_some_iff.1 hq).1
    have hx : l[j] = q := (List.getElem?_eq_some_iff.1 hq).2
    have h1 : l.drop j = q :: l.drop (j + 1) := by rw [List.drop_eq_getElem_cons hlt, hx]
    rw [← h1, List.take_append_drop]
  rw [e, List.find?_append, List.find?_cons, hp]
  have : (l.take j).find? p = none := List.find?_eq_none.2 (fun x hx => by rw [hn x hx]; simp)
  rw [this]; rfl
theorem stop_hit {pl : Pl} {R : List Rt} {S : List Int} {G : List (Int × Int)} {i j q : Nat} (hn : ∀ x ∈ (rcR pl R i).take j, stopP pl R S G i x = false) (hq : (rcR pl R i)[j]? = some q) (hp : stopP pl R S G i q = true) : stopN pl R S G i = q := by
  show ((match (rcR pl R i).find? (stopP pl R S G i) with | some q => (q : Int) | none => (-1 : Int)) : Int) = (q : Int)
  rw [find_hit hn hq hp]
theorem stop_none {pl : Pl} {R : List Rt} {S : List Int} {G : List (Int × Int)} {i : Nat} (hn : ∀ x ∈ (rcR pl R i).take (rcR pl R i).length, stopP pl R S G i x = false) : stopN pl R S G i = -1 := by
  show ((match (rcR pl R i).find? (stopP pl R S G i) with | some q => (q : Int) | none => (-1 : Int)) : Int) = (-1 : Int)
  rw [List.take_length] at hn
  rw [List.find?_eq_none.2 (fun x hx => by rw [hn x hx]; simp)]
theorem all_take_succ {l : List Nat} {p : Nat → Bool} {j q : Nat} (hn : ∀ x ∈ l.take j, p x = false) (hq : l[j]? = some q) (hp : p q = false) : ∀ x ∈ l.take (j + 1), p x = false := by
  intro x hx
  rw [List.take_add_one, hq] at hx
  rcases List.mem_append.1 hx with h | h
  · exact hn x h
  · simp at h; rw [h]; exact hp
set_option maxHeartbeats 4000000 in
theorem stop_any (pl : Pl) (R : List Rt) (S : List Int) (G : List (Int × Int)) (br bl bt M i : Nat) (w : World) (hL : LookAt pl R S G br bl bt M w) (hi : i < R.length) (hM : M ≤ w.heap.size) (hl : pl.length ≤ 1000000) (hr : R.length ≤ 1000000) :
    Calls Tryd.prog 28 #[.agg #[.slice (some ⟨br, 0, none⟩) R.length R.length, .slice (some ⟨bl, 0, none⟩) pl.length pl.length, .slice (some ⟨bt, 0, none⟩) pl.length pl.length], .int .i64 i] w (IntBe (stopN pl R S G i) w) := by
  obtain ⟨C, cc, cB, hI⟩ := hL.rows i hi
  obtain ⟨m1, m2, m3⟩ := hL.lt
  have hbr : br < w.heap.size := by omega
  have hln := rcR_len (pl := pl) (R := R) i
  obtain ⟨n, hn⟩ : ∃ n : Nat, Hid ((rcR pl R i).length = n) := ⟨_, rfl⟩
  have hnl : n ≤ 1000000 := by have := hn.out; omega
  rw [hn.out] at cB
  have HL := Lib.hid hL
  clear hL hln
  go_enter Tryd.func28, Tryd.ntmps28
  go_wp2_with fail
  go_loop [13] (fun c => ∃ j : Nat, j ≤ n ∧ c = .int .i64 j ∧ Hid (∀ x ∈ (rcR pl R i).take j, stopP pl R S G i x = false)) (fun c => n - (intOf c).toNat)
  case atStart => exact ⟨0, Nat.zero_le _, rfl, fun x hx => by simp at hx⟩
  case round =>
    obtain ⟨j, hj, rfl, hno⟩ := hrel
    by_cases hjl : j < n
    case neg =>
      have hF : Hid (stopN pl R S G i = -1) := stop_none (by have := hno.out; rw [show j = (rcR pl R i).length by rw [hn.out]; omega] at this; exact this)
      clear hno
      go_wp2_with fail
      go_ret
      exact ⟨ret_int hF.out.symm, (Below.refl _ _).alloc (Nat.le_refl _) _⟩
    obtain ⟨q, hq⟩ : ∃ q, (rcR pl R i)[j]? = some q := ⟨_, List.getElem?_eq_getElem (by rw [hn.out]; exact hjl)⟩
    have hqn : q < pl.length := rcR_lt (List.mem_of_getElem? hq)
    have hqI : (natsI (rcR pl R i))[j]? = some (q : Int) := by unfold natsI; rw [List.getElem?_map, hq]; rfl
    obtain ⟨b5, off5, rfl, hb5, c5⟩ := hI.at_ hqI
    have hb5w : b5 < w.heap.size := by omega
    have hblw : bl < w.heap.size := by omega
    have hbtw : bt < w.heap.size := by omega
    have aL := HL.out.left q hqn
    have aT := HL.out.last q hqn
    have hit := Lib.hid (fun hp => stop_hit (S := S) (G := G) hno.out hq hp)
    have miss := Lib.hid (fun hp => all_take_succ (p := stopP pl R S G i) hno.out hq hp)
    have hp : Hid (stopP pl R S G i q = (decide (lefW pl R S G R.length q ≤ 0) && decide (lastW pl R G R.length q ≤ i))) := rfl
    obtain ⟨V, hV⟩ : ∃ V, lefW pl R S G R.length q = V := ⟨_, rfl⟩
    obtain ⟨T, hT⟩ : ∃ T, lastW pl R G R.length q = T := ⟨_, rfl⟩
    have hp2 := hp.out
    rw [hV, hT] at hp2
    rw [hV] at aL
    rw [hT] at aT
    clear hq hqI hp hV hT hno
    by_cases h1 : V ≤ 0
    · by_cases h2 : T ≤ i
      · have hF : Hid (stopN pl R S G i = q) := hit.out (by rw [hp2, decide_eq_true h1, decide_eq_true h2]; rfl)
        clear hit miss hp2
        go_wp2_with fail
        go_ret
        exact ⟨ret_int hF.out.symm, (Below.refl _ _).alloc (Nat.le_refl _) _⟩
      · have hN := Lib.hid (miss.out (by rw [hp2, decide_eq_true h1, decide_eq_false h2]; rfl))
        clear hit miss hp2
        go_wp2_with fail
        go_round
        case rel => exact ⟨j + 1, by omega, by go_num, hN⟩
        case measure => simp [intOf]; omega
    · have hN := Lib.hid (miss.out (by rw [hp2, decide_eq_false h1]; rfl))
      clear hit miss hp2
      go_wp2_with fail
      go_round
      case rel => exact ⟨j + 1, by omega, by go_num, hN⟩
      case measure => simp [intOf]; omega
def stopI (pl : Pl) (R : List Rt) (S : List Int) (G : List (Int × Int)) (i : Int) : Int := if 0 ≤ i ∧ i < R.length then stopN pl R S G i.toNat else -1
set_option maxHeartbeats 4000000 in
theorem Stop_any (X : Bas) (pl : Pl) (R : List Rt) (S : List Int) (G : List (Int × Int)) (C : Option Addr) (cr : Nat) (E : Option Addr) (cs : Nat) (D : Option Addr) (cg : Nat) (i : Int) (w : World) {B : Nat} (hP : PlacesAt w B X.P pl) (hR : RightsAt w B C R) (hE : IntsAt w B E S) (hG : PairsAt w B D G) (hB : B ≤ w.heap.size)
    (hl : pl.length ≤ 1000000) (hr : R.length ≤ 1000000) (hg : G.length ≤ 1000000) (hs : S.length ≤ 9223372036854775807) (hS : ∀ x ∈ S, In64 x) :
    Calls Tryd.prog 14 #[.agg #[.string X.nm, .slice X.a1 X.l1 X.c1, .int .i64 X.cl, .slice X.P pl.length X.cP, .slice X.a4 X.l4 X.c4, .slice X.a5 X.l5 X.c5, .slice X.a6 X.l6 X.c6, .slice X.a7 X.l7 X.c7, .slice X.a8 X.l8 X.c8, .slice X.a9 X.l9 X.c9, .int .i64 X.er], .slice C R.length cr, .slice E S.length cs, .slice D G.length cg, .int .i64 i] w (IntBe (stopI pl R S G i) w) := by
  have K1 := Lib.hid (fun (wx : World) (h : Below w.heap.size w wx) => look_any X pl R S G C cr E cs D cg wx (B := B) (hP.below (h.mono hB)) (hR.below (h.mono hB)) (hE.below (h.mono hB)) (hG.below (h.mono hB)) (by have := h.size; omega) hl hr hg hs hS)
  have K2 := Lib.hid (fun (k br bl bt M : Nat) (wx : World) (h : LookAt pl R S G br bl bt M wx) (hk : k < R.length) (hM : M ≤ wx.heap.size) => stop_any pl R S G br bl bt M k wx h hk hM hl hr)
  by_cases h0 : 0 ≤ i
  case neg =>
    have hF : Hid (stopI pl R S G i = -1) := by show _ = _; unfold stopI; rw [if_neg (fun h => h0 h.1)]
    clear K1 K2
    go_enter Tryd.func14, Tryd.ntmps14
    go_wp2_with fail
    go_ret
    exact ⟨ret_int hF.out.symm, (Below.refl _ _).alloc (Nat.le_refl _) _⟩
  obtain ⟨k, rfl⟩ : ∃ k : Nat, i = k := ⟨i.toNat, by omega⟩
  by_cases h1 : k < R.length
  case neg =>
    have hF : Hid (stopI pl R S G k = -1) := by show _ = _; unfold stopI; rw [if_neg (fun h => h1 (by omega))]
    have h2 : R.length ≤ k := by omega
    clear K1 K2
    go_enter Tryd.func14, Tryd.ntmps14
    go_wp2_with fail
    go_ret
    exact ⟨ret_int hF.out.symm, (Below.refl _ _).alloc (Nat.le_refl _) _⟩
  have hF : Hid (stopI pl R S G k = stopN pl R S G k) := by show _ = _; unfold stopI; rw [if_pos ⟨by omega, by omega⟩, Int.toNat_natCast]
  go_enter Tryd.func14, Tryd.ntmps14
  go_wp2_with (first | (go_at_call 26; ((with_reducible refine (K1.out _ ((Below.refl _ _).alloc (Nat.le_refl _) _)).mono ?_); rintro e1 w1 ⟨br, bl, bt, rfl, hL, hb1⟩; have HL := Lib.hid hL; clear hL)) | (go_at_call 28; ((with_reducible refine (K2.out k br bl bt _ _ HL.out h1 (Nat.le_refl _)).mono ?_); rintro e2 w2 ⟨rfl, hb2⟩)) | fail)
  go_ret
  exact ⟨ret_int hF.out.symm, (((Below.refl _ _).alloc (Nat.le_refl _) _).trans (hb1.mono (by simp))).trans (hb2.mono (by have := hb1.size; simp at this; omega))⟩
end Go.Proofs.YtkbceeobnbbfbaaDoor

/- Walks of wet and of its closure. -/
namespace Go.Proofs.YtkbceeobnbbfbaaDoor
open Go.RowKit CM
attribute [local go_sem] alloc_drewN setCell_drewN shape_drewN

def wetB (G : List (Int × Int)) (j : Nat) : Bool := decide (j < G.length) && decide (0 < gotG G j)
def WetB (G : List (Int × Int)) (j : Nat) (w : World) (e : Ending) (w' : World) : Prop := e = .returned (.bool (wetB G j)) ∧ w = w'
theorem wetc_any (G : List (Int × Int)) (D : Option Addr) (cg g j : Nat) (w : World) {B : Nat} (hG : PairsAt w B D G) (hg : G.length ≤ 1000000) (hc : w.cell? ⟨g, 0, none⟩ = some (.slice D G.length cg)) :
    Calls Tryd.prog 42 #[.int .i64 j, .pointer (some ⟨g, 0, none⟩)] w (WetB G j w) := by
  by_cases h1 : j < G.length
  · obtain ⟨x, hx⟩ : ∃ x, G[j]? = some x := ⟨_, List.getElem?_eq_getElem h1⟩
    obtain ⟨b, off, rfl, hb, c0, c1⟩ := hG.at_ hx
    have hR : Hid (wetB G j = decide (0 < x.2)) := by show _ = _; unfold wetB; rw [gotG_of hx, decide_eq_true h1]; rfl
    clear hx
    go_enter Tryd.func42, Tryd.ntmps42
    go_wp2_with fail
    go_ret
    exact ⟨ret_bool hR.out.symm, rfl⟩
  · have hR : Hid (wetB G j = false) := by show _ = _; unfold wetB; rw [decide_eq_false h1]; rfl
    have d1 : decide (j < G.length) = false := decide_eq_false h1
    go_enter Tryd.func42, Tryd.ntmps42
    go_wp2_with fail
    go_ret
    exact ⟨ret_bool hR.out.symm, rfl⟩
/-- The wet ones from i on, below k. -/
def wetT (G : List (Int × Int)) (i k : Nat) : List Nat := (List.range k).filter fun j => decide (i ≤ j) && wetB G j
theorem wetT_end (G : List (Int × Int)) (m i : Nat) : wetT G i m = wetF G m i := rfl
theorem wetT_succ (G : List (Int × Int)) (i k : Nat) : wetT G i (k + 1) = if i ≤ k ∧ wetB G k = true then wetT G i k ++ [k] else wetT G i k := by
  unfold wetT
  rw [List.range_succ, List.filter_append]
  by_cases h : i ≤ k
  · cases hw : wetB G k <;> simp [h, hw]
  · simp [h]
theorem wetT_start (G : List (Int × Int)) (i : Nat) : wetT G i i = [] := by
  unfold wetT
  rw [List.filter_eq_nil_iff]
  intro a ha
  have := List.mem_range.1 ha
  simp; omega
theorem wetT_len (G : List (Int × Int)) (i k : Nat) : (wetT G i k).length ≤ k := by
  unfold wetT
  exact Nat.le_trans (List.length_filter_le _ _) (by simp)
theorem wetF_far (G : List (Int × Int)) {m i : Nat} (h : m ≤ i) : wetF G m i = [] := by
  unfold wetF
  rw [List.filter_eq_nil_iff]
  intro a ha
  have := List.mem_range.1 ha
  simp; omega
set_option maxHeartbeats 2000000 in
theorem wet_any (R : List Rt) (G : List (Int × Int)) (C : Option Addr) (cr : Nat) (D : Option Addr) (cg : Nat) (i : Nat) (w : World) {B : Nat} (hG : PairsAt w B D G) (hB : B ≤ w.heap.size)
    (hr : R.length ≤ 1000000) (hg : G.length ≤ 1000000) (hi1 : i ≤ 1000000) :
    Calls Tryd.prog 29 #[.slice C R.length cr, .slice D G.length cg, .int .i64 i] w (ReachIs (wetF G R.length i) w) := by
  obtain ⟨i0, hi, hz0, hz1, hz2⟩ := info_parts Tryd.infoInt
  have K1 := Lib.hid (fun (j : Nat) (wx : World) (hq : PairsAt wx B D G) (hc : wx.cell? ⟨w.heap.size, 0, none⟩ = some (.slice D G.length cg)) => wetc_any G D cg w.heap.size j wx hq hg hc)
  go_enter Tryd.func29, Tryd.ntmps29
  go_wp2_with fail
  go_loopw [8, 9] (fun out c wr => ∃ (k : Nat), c = .int .i64 k ∧ i ≤ k ∧ (k ≤ R.length ∨ k = i) ∧ lenV out = (wetT G i k).length ∧ wr.ownsRow (w.heap.size + 1) 3 1 out (wetT G i k).length (natsV (wetT G i k)) ∧
      wr.cell? ⟨w.heap.size, 0, none⟩ = some (.slice D G.length cg) ∧ Below w.heap.size w wr ∧ w.heap.size + 1 ≤ wr.heap.size) (fun _ c _ => R.length - (intOf c).toNat)
  case atStart =>
    refine ⟨i, rfl, Nat.le_refl _, .inr rfl, ?_, ?_, ?_, (Below.refl _ _).alloc (Nat.le_refl _) _, by simp⟩
    · rw [wetT_start]; rfl
    · rw [wetT_start]; exact World.ownsRow_nil _ _ _ _
    · go_simp
  case round =>
    obtain ⟨k, rfl, hik, hk, hlo, hrow, hcb, hBw, hz⟩ := hrel
    have hwl := wetT_len G i k
    by_cases hlt : k < R.length
    · have hG2 := Lib.hid (PairsAt.below hG (hBw.mono hB))
      have hcb2 := Lib.hid hcb
      have K2 := Lib.hid (K1.out k wr hG2.out hcb2.out)
      cases hw : wetB G k
      · have hs : wetT G i (k + 1) = wetT G i k := by rw [wetT_succ, hw]; simp
        have K2 : Hid (Calls Tryd.prog 42 #[.int .i64 k, .pointer (some ⟨w.heap.size, 0, none⟩)] wr fun e w' => e = .returned (.bool false) ∧ wr = w') := by
          have := K2.out; unfold WetB at this; rw [hw] at this; exact this
        have hs := Lib.hid hs
        clear hw K1
        go_wp2_with (first | (go_at_call 42; ((with_reducible refine K2.out.mono ?_); rintro e1 w1 ⟨rfl, rfl⟩)) | fail)
        go_roundw
        case rel => exact ⟨k + 1, by go_num, by omega, by omega, by rw [hs.out]; exact hlo, by rw [hs.out]; exact hrow, hcb, hBw, hz⟩
        case measure => simp [intOf]; omega
      · have hs : wetT G i (k + 1) = wetT G i k ++ [k] := by rw [wetT_succ, hw]; simp [hik]
        have K2 : Hid (Calls Tryd.prog 42 #[.int .i64 k, .pointer (some ⟨w.heap.size, 0, none⟩)] wr fun e w' => e = .returned (.bool true) ∧ wr = w') := by
          have := K2.out; unfold WetB at this; rw [hw] at this; exact this
        have hs := Lib.hid hs
        clear hw K1
        go_wp2_with (first | (go_at_call 42; ((with_reducible refine K2.out.mono ?_); rintro e1 w1 ⟨rfl, rfl⟩)) | (at_builtin; refine wpList_append_own _ rfl _ _ 29 rfl (w.heap.size + 1) 3 i0 (.int .i64 0) 1 8 Tryd.underlying29 hi hz0 hz1 hz2 rfl (by decide) _ (wetT G i k).length _ rfl (hrow.alloc _) ⟨wr.heap.size, 0, none⟩ 1 1 [.int .i64 k] rfl rfl (cell_one_at (by simp) _ _) (by simp [Value.oneCell']) (by unfold maxLen; omega) (by omega) (by simp; omega) ?_; intro v' w2 hown' hgrow _) | fail)
        obtain ⟨g', cap', rfl, hg1, hg2⟩ := hown'.form (by omega)
        have hb2 := below_app hrow (by omega) hgrow
        have hrow2 : w2.ownsRow (w.heap.size + 1) 3 1 (.slice (some ⟨g', 0, none⟩) ((wetT G i k).length + 1) cap') (wetT G i (k + 1)).length (natsV (wetT G i (k + 1))) := by rw [hs.out, natsV_snoc, List.length_append]; exact hown'
        have hcb3 := (hb2.cell (p := ⟨w.heap.size, 0, none⟩) (by show w.heap.size < _; omega)).trans hcb
        have hBw2 := hBw.trans (hb2.mono (by omega))
        have hz2 : w.heap.size + 1 ≤ w2.heap.size := by have := hb2.size; omega
        clear hown' hgrow hb2 hrow hcb hBw
        go_roundw
        case rel => exact ⟨k + 1, by go_num, by omega, by omega, by rw [hs.out]; simp [lenV], hrow2, hcb3, hBw2, hz2⟩
        case measure => simp [intOf]; omega
    · have hF : wetT G i k = wetF G R.length i := by
        rcases hk with h | h
        · obtain rfl : k = R.length := by omega
          rfl
        · subst h; rw [wetT_start, wetF_far G (by omega)]
      rw [hF] at hrow hlo
      clear hF
      obtain ⟨E, cc, rfl, hI, hFr⟩ := nats_of_owns hrow
      go_wp2_with fail
      go_ret
      exact ⟨E, cc, rfl, hI, fun a ha => by have := hFr a ha; omega, hBw⟩
end Go.Proofs.YtkbceeobnbbfbaaDoor

