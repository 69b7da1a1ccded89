/- What look leaves, and what holds in its middle. -/
import Derived.Test.YtkbceeobnbbfbaaDY
set_option linter.unusedSimpArgs false
set_option linter.unusedVariables false
namespace Go.Proofs.Ytkbceeobnbbfbaa
open Go.RowKit CM

theorem IntsAt.far {w : World} {B : Nat} {C : Option Addr} {l : List Int} (h : IntsAt w B C l) {p : Addr} (hp : ∀ a, C = some a → a.block ≠ p.block) (u : Value) : IntsAt (w.setCell p u) B C l := by
  intro hm
  obtain ⟨b, off, e, hb, hc⟩ := h hm
  refine ⟨b, off, e, hb, fun j hj => ?_⟩
  have hne := hp _ e
  exact (World.cell?_of_block (a := ⟨b, off + j, none⟩) (Below.heap_setCell w p u b hne)).trans (hc j hj)
/-- The middle of look. -/
structure LookW (X : Bas) (pl : Pl) (R : List Rt) (w : World) (br bl bt bd : Nat) (FB FL FT : Nat → Value) (wr : World) : Prop where
  c0 : wr.cell? ⟨bd, 0, none⟩ = some (.slice (some ⟨br, 0, none⟩) R.length R.length)
  c1 : wr.cell? ⟨bd, 1, none⟩ = some (.slice (some ⟨bl, 0, none⟩) pl.length pl.length)
  c2 : wr.cell? ⟨bd, 2, none⟩ = some (.slice (some ⟨bt, 0, none⟩) pl.length pl.length)
  aB : Arr wr br R.length FB
  aL : Arr wr bl pl.length FL
  aT : Arr wr bt pl.length FT
  ne : br ≠ bl ∧ br ≠ bt ∧ br ≠ bd ∧ bl ≠ bt ∧ bl ≠ bd ∧ bt ≠ bd
  lo : w.heap.size + 1 < br ∧ w.heap.size + 1 < bl ∧ w.heap.size + 1 < bt ∧ w.heap.size + 1 < bd
  hi : br < wr.heap.size ∧ bl < wr.heap.size ∧ bt < wr.heap.size ∧ bd < wr.heap.size
  box : BoxB wr w.heap.size X pl
  t8 : Arr wr (w.heap.size + 1) 3 (fun _ => .slice none 0 0)
  below : Below w.heap.size w wr
section
variable {X : Bas} {pl : Pl} {R : List Rt} {w : World} {br bl bt bd : Nat} {FB FL FT : Nat → Value} {wr w1 : World}
theorem LookW.go (h : LookW X pl R w br bl bt bd FB FL FT wr) (hb : Below wr.heap.size wr w1) : LookW X pl R w br bl bt bd FB FL FT w1 := by
  obtain ⟨h1, h2, h3, h4⟩ := h.hi
  have hz := hb.size
  obtain ⟨l1, _⟩ := h.lo
  exact ⟨(hb.cell (p := ⟨bd, 0, none⟩) h4).trans h.c0, (hb.cell (p := ⟨bd, 1, none⟩) h4).trans h.c1, (hb.cell (p := ⟨bd, 2, none⟩) h4).trans h.c2, h.aB.below hb h1, h.aL.below hb h2, h.aT.below hb h3, h.ne, h.lo,
    ⟨by omega, by omega, by omega, by omega⟩, h.box.below hb (by omega), h.t8.below hb (by omega), h.below.trans (hb.mono (by omega))⟩
theorem cell_far {p q : Addr} (h : p.block ≠ q.block) (u : Value) : (wr.setCell q u).cell? p = wr.cell? p := World.cell?_of_block (Below.heap_setCell wr q u p.block h)
theorem LookW.setB (h : LookW X pl R w br bl bt bd FB FL FT wr) {i : Nat} (hi : i < R.length) (x : Value) : LookW X pl R w br bl bt bd (updF FB i x) FL FT (wr.setCell ⟨br, i, none⟩ x) := by
  obtain ⟨n1, n2, n3, n4, n5, n6⟩ := h.ne
  obtain ⟨l1, _⟩ := h.lo
  refine ⟨(cell_far (p := ⟨bd, 0, none⟩) (q := ⟨br, i, none⟩) (Ne.symm n3) x).trans h.c0, (cell_far (p := ⟨bd, 1, none⟩) (q := ⟨br, i, none⟩) (Ne.symm n3) x).trans h.c1, (cell_far (p := ⟨bd, 2, none⟩) (q := ⟨br, i, none⟩) (Ne.symm n3) x).trans h.c2, h.aB.set hi x, h.aL.far (p := ⟨br, i, none⟩) (Ne.symm n1) x, h.aT.far (p := ⟨br, i, none⟩) (Ne.symm n2) x, h.ne, h.lo, by simpa using h.hi, ?_, h.t8.far (p := ⟨br, i, none⟩) (by show w.heap.size + 1 ≠ br; omega) x, h.below.setCell (p := ⟨br, i, none⟩) (by show w.heap.size ≤ br; omega) x⟩
  exact (Below.heap_setCell wr ⟨br, i, none⟩ x w.heap.size (by show w.heap.size ≠ br; omega)).trans h.box
theorem LookW.setL (h : LookW X pl R w br bl bt bd FB FL FT wr) {i : Nat} (hi : i < pl.length) (x : Value) : LookW X pl R w br bl bt bd FB (updF FL i x) FT (wr.setCell ⟨bl, i, none⟩ x) := by
  obtain ⟨n1, n2, n3, n4, n5, n6⟩ := h.ne
  obtain ⟨_, l1, _⟩ := h.lo
  refine ⟨(cell_far (p := ⟨bd, 0, none⟩) (q := ⟨bl, i, none⟩) (Ne.symm n5) x).trans h.c0, (cell_far (p := ⟨bd, 1, none⟩) (q := ⟨bl, i, none⟩) (Ne.symm n5) x).trans h.c1, (cell_far (p := ⟨bd, 2, none⟩) (q := ⟨bl, i, none⟩) (Ne.symm n5) x).trans h.c2, h.aB.far (p := ⟨bl, i, none⟩) n1 x, h.aL.set hi x, h.aT.far (p := ⟨bl, i, none⟩) (Ne.symm n4) x, h.ne, h.lo, by simpa using h.hi, ?_, h.t8.far (p := ⟨bl, i, none⟩) (by show w.heap.size + 1 ≠ bl; omega) x, h.below.setCell (p := ⟨bl, i, none⟩) (by show w.heap.size ≤ bl; omega) x⟩
  exact (Below.heap_setCell wr ⟨bl, i, none⟩ x w.heap.size (by show w.heap.size ≠ bl; omega)).trans h.box
theorem LookW.setT (h : LookW X pl R w br bl bt bd FB FL FT wr) {i : Nat} (hi : i < pl.length) (x : Value) : LookW X pl R w br bl bt bd FB FL (updF FT i x) (wr.setCell ⟨bt, i, none⟩ x) := by
  obtain ⟨n1, n2, n3, n4, n5, n6⟩ := h.ne
  obtain ⟨_, _, l1, _⟩ := h.lo
  refine ⟨(cell_far (p := ⟨bd, 0, none⟩) (q := ⟨bt, i, none⟩) (Ne.symm n6) x).trans h.c0, (cell_far (p := ⟨bd, 1, none⟩) (q := ⟨bt, i, none⟩) (Ne.symm n6) x).trans h.c1, (cell_far (p := ⟨bd, 2, none⟩) (q := ⟨bt, i, none⟩) (Ne.symm n6) x).trans h.c2, h.aB.far (p := ⟨bt, i, none⟩) n2 x, h.aL.far (p := ⟨bt, i, none⟩) n4 x, h.aT.set hi x, h.ne, h.lo, by simpa using h.hi, ?_, h.t8.far (p := ⟨bt, i, none⟩) (by show w.heap.size + 1 ≠ bt; omega) x, h.below.setCell (p := ⟨bt, i, none⟩) (by show w.heap.size ≤ bt; omega) x⟩
  exact (Below.heap_setCell wr ⟨bt, i, none⟩ x w.heap.size (by show w.heap.size ≠ bt; omega)).trans h.box
theorem LookW.congr {GB GL GT : Nat → Value} (h : LookW X pl R w br bl bt bd FB FL FT wr) (e1 : ∀ j, j < R.length → FB j = GB j) (e2 : ∀ j, j < pl.length → FL j = GL j) (e3 : ∀ j, j < pl.length → FT j = GT j) : LookW X pl R w br bl bt bd GB GL GT wr :=
  ⟨h.c0, h.c1, h.c2, h.aB.congr e1, h.aL.congr e2, h.aT.congr e3, h.ne, h.lo, h.hi, h.box, h.t8, h.below⟩
end
theorem new3_0 (w : World) (o1 o2 o3 : Obj) : ((((w.alloc o1).alloc o2).alloc o3).drew).heap[w.heap.size]? = some o1 :=
  (Below.heap_alloc _ o3 _ (by simp; omega)).trans ((Below.heap_alloc _ o2 _ (by simp)).trans (heap_alloc_new w o1))
theorem new3_1 (w : World) (o1 o2 o3 : Obj) : ((((w.alloc o1).alloc o2).alloc o3).drew).heap[w.heap.size + 1]? = some o2 := by
  have h := heap_alloc_new (w.alloc o1) o2
  rw [World.size_alloc] at h
  exact (Below.heap_alloc _ o3 _ (by simp)).trans h
theorem new3_2 (w : World) (o1 o2 o3 : Obj) : ((((w.alloc o1).alloc o2).alloc o3).drew).heap[w.heap.size + 1 + 1]? = some o3 := by
  have h := heap_alloc_new ((w.alloc o1).alloc o2) o3
  rw [World.size_alloc, World.size_alloc] at h
  exact h
theorem arr_of_block {w : World} {g n : Nat} {t : TypeId} {z : Value} (h : w.heap[g]? = some (.cells (zeros z n) t (0, 0))) : Arr w g n (fun _ => z) := fun j hj => by
  constructor
  · simp [World.cell?, h, zeros_get z hj]
  · simp [World.frozen?, h]
theorem LookW.start {X : Bas} {pl : Pl} {R : List Rt} {w w1 wx : World} {br bl bt bd : Nat} {FL : Nat → Value} {t1 t2 t3 : TypeId} (hd : wx.heap[bd]? = some (.cells #[.slice (some ⟨br, 0, none⟩) R.length R.length, .slice (some ⟨bl, 0, none⟩) pl.length pl.length, .slice (some ⟨bt, 0, none⟩) pl.length pl.length] t1 (0, 0)))
    (hr : wx.heap[br]? = some (.cells (zeros (.slice none 0 0) R.length) t2 (0, 0))) (ht : wx.heap[bt]? = some (.cells (zeros (.int .i64 0) pl.length) t3 (0, 0))) (hb : Below w1.heap.size w1 wx) (hL : Arr w1 bl pl.length FL) (hX : BoxB w1 w.heap.size X pl) (hT : Arr w1 (w.heap.size + 1) 3 (fun _ => .slice none 0 0)) (hB : Below w.heap.size w w1)
    (ne : br ≠ bt ∧ br ≠ bd ∧ bt ≠ bd) (lo : w1.heap.size ≤ br ∧ w1.heap.size ≤ bt ∧ w1.heap.size ≤ bd) (h1 : bl < w1.heap.size) (h2 : w.heap.size + 1 < bl) : LookW X pl R w br bl bt bd (fun _ => .slice none 0 0) FL (fun _ => .int .i64 0) wx := by
  have lt : ∀ {b : Nat} {o : Obj}, wx.heap[b]? = some o → b < wx.heap.size := fun {b o} h => by
    rcases Nat.lt_or_ge b wx.heap.size with g | g
    · exact g
    · rw [Array.getElem?_eq_none g] at h; cases h
  refine ⟨by simp [World.cell?, hd], by simp [World.cell?, hd], by simp [World.cell?, hd], arr_of_block hr, hL.below hb h1, arr_of_block ht, by omega, by omega, ⟨lt hr, ?_, lt ht, lt hd⟩, hX.below hb (by omega), hT.below hb (by omega), hB.trans (hb.mono hB.size)⟩
  have := hb.size; omega
/-- The first rows are the reaches; what they lie in is at or above M. -/
def RowsW (pl : Pl) (R : List Rt) (M : Nat) (FB : Nat → Value) (k : Nat) (wr : World) : Prop := ∀ i, i < k → ∃ C cc, FB i = .slice C (rcR pl R i).length cc ∧ IntsAt wr wr.heap.size C (natsI (rcR pl R i)) ∧ ∀ a, C = some a → M ≤ a.block
section
variable {pl : Pl} {R : List Rt} {M k : Nat} {FB : Nat → Value} {wr w1 : World}
theorem RowsW.zero : RowsW pl R M FB 0 wr := fun i hi => absurd hi (Nat.not_lt_zero _)
theorem RowsW.go (h : RowsW pl R M FB k wr) (hb : Below wr.heap.size wr w1) : RowsW pl R M FB k w1 := fun i hi => by
  obtain ⟨C, cc, e, h1, h2⟩ := h i hi
  exact ⟨C, cc, e, (h1.below hb).more hb.size, h2⟩
theorem RowsW.far (h : RowsW pl R M FB k wr) {p : Addr} (hp : p.block < M) (u : Value) : RowsW pl R M FB k (wr.setCell p u) := fun i hi => by
  obtain ⟨C, cc, e, h1, h2⟩ := h i hi
  refine ⟨C, cc, e, ?_, h2⟩
  have := h1.far (p := p) (fun a ha => by have := h2 a ha; omega) u
  simpa using this
theorem RowsW.add (h : RowsW pl R M FB k wr) {C : Option Addr} {cc : Nat} (hI : IntsAt wr wr.heap.size C (natsI (rcR pl R k))) (hF : ∀ a, C = some a → M ≤ a.block) : RowsW pl R M (updF FB k (.slice C (rcR pl R k).length cc)) (k + 1) wr := fun i hi => by
  by_cases e : i = k
  · subst e
    exact ⟨C, cc, by unfold updF; rw [if_pos rfl], hI, hF⟩
  · obtain ⟨C', cc', e', h1, h2⟩ := h i (by omega)
    exact ⟨C', cc', by unfold updF; rw [if_neg e]; exact e', h1, h2⟩
end
def lefW (pl : Pl) (R : List Rt) (S : List Int) (G : List (Int × Int)) (k q : Nat) : Int := leftW pl R (supF S) S.length G k q
def lefV (pl : Pl) (R : List Rt) (S : List Int) (G : List (Int × Int)) (k : Nat) : Nat → Value := fun q => .int .i64 (lefW pl R S G k q)
def lasV (pl : Pl) (R : List Rt) (G : List (Int × Int)) (k : Nat) : Nat → Value := fun q => .int .i64 (lastW pl R G k q)
def lefM (pl : Pl) (R : List Rt) (S : List Int) (G : List (Int × Int)) (k : Nat) (g : Int) (l : List Nat) : Nat → Value := fun q => .int .i64 (if q ∈ l then wrap64 (lefW pl R S G k q - g) else lefW pl R S G k q)
def lasM (pl : Pl) (R : List Rt) (G : List (Int × Int)) (k : Nat) (g : Int) (l : List Nat) : Nat → Value := fun q => .int .i64 (if q ∈ l ∧ 0 < g then (k : Int) else lastW pl R G k q)
section
variable {pl : Pl} {R : List Rt} {S : List Int} {G : List (Int × Int)} {k : Nat} {g : Int}
theorem lefM_nil : lefM pl R S G k g [] = lefV pl R S G k := by funext q; unfold lefM lefV; rw [if_neg (by simp)]
theorem lasM_nil : lasM pl R G k g [] = lasV pl R G k := by funext q; unfold lasM lasV; rw [if_neg (by simp)]
theorem lefM_all (hk : k < G.length) (hg : gotG G k = g) : lefM pl R S G k g (rcR pl R k) = lefV pl R S G (k + 1) := by
  funext q; unfold lefM lefV
  congr 1
  show _ = (if _ then _ else _)
  by_cases h : q ∈ rcR pl R k
  · rw [if_pos h, if_pos ⟨h, hk⟩, hg]; rfl
  · rw [if_neg h, if_neg (fun e => h e.1)]; rfl
theorem lasM_all (hk : k < G.length) (hg : gotG G k = g) : lasM pl R G k g (rcR pl R k) = lasV pl R G (k + 1) := by
  funext q; unfold lasM lasV
  congr 1
  show _ = (if _ then _ else _)
  by_cases h : q ∈ rcR pl R k ∧ 0 < g
  · rw [if_pos h, if_pos ⟨h.1, hk, by rw [hg]; exact h.2⟩]
  · rw [if_neg h, if_neg (fun e => h ⟨e.1, by rw [← hg]; exact e.2.2⟩)]
theorem lefV_far (hk : ¬ k < G.length) : lefV pl R S G k = lefV pl R S G (k + 1) := by
  funext q; unfold lefV; congr 1
  show _ = (if _ then _ else _)
  rw [if_neg (fun e => hk e.2)]; rfl
theorem lasV_far (hk : ¬ k < G.length) : lasV pl R G k = lasV pl R G (k + 1) := by
  funext q; unfold lasV; congr 1
  show _ = (if _ then _ else _)
  rw [if_neg (fun e => hk e.2.1)]
theorem lefM_new {l : List Nat} {q : Nat} (h : q ∉ l) : lefM pl R S G k g l q = .int .i64 (lefW pl R S G k q) := by unfold lefM; rw [if_neg h]
theorem lefM_snoc (l : List Nat) (q j : Nat) : updF (lefM pl R S G k g l) q (.int .i64 (wrap64 (lefW pl R S G k q - g))) j = lefM pl R S G k g (l ++ [q]) j := by
  unfold updF lefM
  by_cases h : j = q
  · subst h; simp
  · rw [if_neg h]; simp [h]
theorem lasM_snoc (h0 : 0 < g) (l : List Nat) (q j : Nat) : updF (lasM pl R G k g l) q (.int .i64 (k : Int)) j = lasM pl R G k g (l ++ [q]) j := by
  unfold updF lasM
  by_cases h : j = q
  · subst h; simp [h0]
  · rw [if_neg h]; simp [h]
theorem lasM_dry (h0 : ¬ 0 < g) (l m : List Nat) : lasM pl R G k g l = lasM pl R G k g m := by
  funext q; unfold lasM; rw [if_neg (fun e => h0 e.2), if_neg (fun e => h0 e.2)]
end
/-- What look leaves: the rows of reaches, what is left, the last right that reaches a place; all below M. -/
structure LookAt (pl : Pl) (R : List Rt) (S : List Int) (G : List (Int × Int)) (br bl bt M : Nat) (w : World) : Prop where
  rows : ∀ i, i < R.length → ∃ C cc, w.cell? ⟨br, i, none⟩ = some (.slice C (rcR pl R i).length cc) ∧ IntsAt w M C (natsI (rcR pl R i))
  left : ∀ q, q < pl.length → w.cell? ⟨bl, q, none⟩ = some (.int .i64 (lefW pl R S G R.length q))
  last : ∀ q, q < pl.length → w.cell? ⟨bt, q, none⟩ = some (.int .i64 (lastW pl R G R.length q))
  lt : br < M ∧ bl < M ∧ bt < M
theorem LookAt.below {pl : Pl} {R : List Rt} {S : List Int} {G : List (Int × Int)} {br bl bt M : Nat} {w w1 : World} (h : LookAt pl R S G br bl bt M w) (hb : Below M w w1) : LookAt pl R S G br bl bt M w1 := by
  obtain ⟨h1, h2, h3⟩ := h.lt
  refine ⟨fun i hi => ?_, fun q hq => (hb.cell (p := ⟨bl, q, none⟩) h2).trans (h.left q hq), fun q hq => (hb.cell (p := ⟨bt, q, none⟩) h3).trans (h.last q hq), h.lt⟩
  obtain ⟨C, cc, e, hI⟩ := h.rows i hi
  exact ⟨C, cc, (hb.cell (p := ⟨br, i, none⟩) h1).trans e, hI.below hb⟩
def LookIs (pl : Pl) (R : List Rt) (S : List Int) (G : List (Int × Int)) (w : World) (e : Ending) (w' : World) : Prop :=
  ∃ br bl bt, e = .returned (.agg #[.slice (some ⟨br, 0, none⟩) R.length R.length, .slice (some ⟨bl, 0, none⟩) pl.length pl.length, .slice (some ⟨bt, 0, none⟩) pl.length pl.length]) ∧ LookAt pl R S G br bl bt w'.heap.size w' ∧ Below w.heap.size w w'
theorem LookAt.of {pl : Pl} {R : List Rt} {S : List Int} {G : List (Int × Int)} {br bl bt M : Nat} {w : World} {FB : Nat → Value} (aB : Arr w br R.length FB) (hR : RowsW pl R M FB R.length w) (aL : Arr w bl pl.length (lefV pl R S G R.length)) (aT : Arr w bt pl.length (lasV pl R G R.length)) (lt : br < w.heap.size ∧ bl < w.heap.size ∧ bt < w.heap.size) : LookAt pl R S G br bl bt w.heap.size w := by
  refine ⟨fun i hi => ?_, fun q hq => (aL q hq).1, fun q hq => (aT q hq).1, lt⟩
  obtain ⟨C, cc, e, hI, _⟩ := hR i hi
  exact ⟨C, cc, by rw [(aB i hi).1, e], hI⟩
theorem LookW.finish {X : Bas} {pl : Pl} {R : List Rt} {S : List Int} {G : List (Int × Int)} {w wr : World} {br bl bt bd M : Nat} {FB : Nat → Value} (h : LookW X pl R w br bl bt bd FB (lefV pl R S G R.length) (lasV pl R G R.length) wr) (hR : RowsW pl R M FB R.length wr) (hM : w.heap.size + 1 < M) (v0 v1 v2 : Value) :
    LookAt pl R S G br bl bt wr.heap.size (((wr.setCell ⟨w.heap.size + 1, 0, none⟩ v0).setCell ⟨w.heap.size + 1, 1, none⟩ v1).setCell ⟨w.heap.size + 1, 2, none⟩ v2) ∧ Below w.heap.size w (((wr.setCell ⟨w.heap.size + 1, 0, none⟩ v0).setCell ⟨w.heap.size + 1, 1, none⟩ v1).setCell ⟨w.heap.size + 1, 2, none⟩ v2) := by
  obtain ⟨l1, l2, l3, _⟩ := h.lo
  have key : ∀ (wx : World) (j : Nat) (v : Value), (Arr wx br R.length FB ∧ RowsW pl R M FB R.length wx ∧ Arr wx bl pl.length (lefV pl R S G R.length) ∧ Arr wx bt pl.length (lasV pl R G R.length)) →
      (Arr (wx.setCell ⟨w.heap.size + 1, j, none⟩ v) br R.length FB ∧ RowsW pl R M FB R.length (wx.setCell ⟨w.heap.size + 1, j, none⟩ v) ∧ Arr (wx.setCell ⟨w.heap.size + 1, j, none⟩ v) bl pl.length (lefV pl R S G R.length) ∧ Arr (wx.setCell ⟨w.heap.size + 1, j, none⟩ v) bt pl.length (lasV pl R G R.length)) :=
    fun wx j v ⟨a, b, c, d⟩ => ⟨a.far (p := ⟨w.heap.size + 1, j, none⟩) (by show br ≠ w.heap.size + 1; omega) v, b.far (p := ⟨w.heap.size + 1, j, none⟩) hM v, c.far (p := ⟨w.heap.size + 1, j, none⟩) (by show bl ≠ w.heap.size + 1; omega) v, d.far (p := ⟨w.heap.size + 1, j, none⟩) (by show bt ≠ w.heap.size + 1; omega) v⟩
  obtain ⟨a, b, c, d⟩ := key _ 2 v2 (key _ 1 v1 (key _ 0 v0 ⟨h.aB, hR, h.aL, h.aT⟩))
  refine ⟨?_, ((h.below.setCell (p := ⟨w.heap.size + 1, 0, none⟩) (by show w.heap.size ≤ w.heap.size + 1; omega) _).setCell (p := ⟨w.heap.size + 1, 1, none⟩) (by show w.heap.size ≤ w.heap.size + 1; omega) _).setCell (p := ⟨w.heap.size + 1, 2, none⟩) (by show w.heap.size ≤ w.heap.size + 1; omega) _⟩
  have := LookAt.of a b c d (by simpa using ⟨h.hi.1, h.hi.2.1, h.hi.2.2.1⟩)
  simpa using this
end Go.Proofs.Ytkbceeobnbbfbaa
