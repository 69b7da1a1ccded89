/- Joined of: CR W1 W2 Plan W3 W4. -/
import Derived.Deep.AppendLies
import Derived.OrdersHeld
import Derived.Deep.RegionHeld3
import Derived.Deep.DrawnRows
import Derived.Deep.DeepCutAuto
import Derived.IntWalk
import Derived.Test.YtkbceeobnbbfbaaDoorG05
import Derived.Test.YtkbceeobnbbfbaaDoorRows
/- What the reference of call computes is the same. -/
set_option linter.unusedSimpArgs false
set_option linter.unusedVariables false
namespace Go.Proofs.YtkbceeobnbbfbaaDoor.CM
open Go.RowKit
section
variable (pl : Pl) (R : List Rt) (sup : Nat → Int) (ns : Nat) (G : List (Int × Int))
def leftR : Nat → Nat → Int
  | 0, q => thereS pl sup ns q
  | n + 1, q => if q ∈ rcR pl R n then wrap64 (leftR n q - gotG G n) else leftR n q
/-- No right behind i and before m that has water reaches the place. -/
def dryF (i q : Nat) : Nat → Bool
  | 0 => true
  | j + 1 => dryF i q j && !(decide (i < j) && (decide (q ∈ rcR pl R j) && decide (0 < gotG G j)))
def stopR (i : Nat) : Int := match (rcR pl R i).find? (fun q => decide (leftR pl R sup ns G R.length q ≤ 0) && dryF pl R G i q R.length) with | some q => (q : Int) | none => -1
def shortL : List Int := ((List.range R.length).filter (shortF pl R G)).map fun i => (rtN R i).id
variable {pl R sup ns G}
theorem wrap_in (x : Int) : -9223372036854775808 ≤ wrap64 x ∧ wrap64 x ≤ 9223372036854775807 := by unfold wrap64; omega
theorem got_out {j : Nat} (h : ¬ j < G.length) : gotG G j = 0 := by
  unfold gotG
  rw [List.getD_eq_getElem?_getD, List.getElem?_eq_none (by omega)]; rfl
theorem leftR_eq (hs : ∀ p, -9223372036854775808 ≤ sup p ∧ sup p ≤ 9223372036854775807) : ∀ n q, leftR pl R sup ns G n q = leftW pl R sup ns G n q ∧ -9223372036854775808 ≤ leftW pl R sup ns G n q ∧ leftW pl R sup ns G n q ≤ 9223372036854775807
  | 0, q => by
    have := thereN_in (pl := pl) hs (min pl.length ns) q
    exact ⟨rfl, by show _ ≤ thereS pl sup ns q; unfold thereS; omega, by show thereS pl sup ns q ≤ _; unfold thereS; omega⟩
  | n + 1, q => by
    obtain ⟨i1, i2, i3⟩ := leftR_eq hs n q
    show (if _ then _ else _) = (if _ then _ else _) ∧ _ ≤ (if _ then _ else _) ∧ (if _ then _ else _) ≤ _
    by_cases g : q ∈ rcR pl R n
    · rw [if_pos g, i1]
      by_cases g2 : n < G.length
      · rw [if_pos ⟨g, g2⟩]
        have := wrap_in (leftW pl R sup ns G n q - gotG G n)
        exact ⟨rfl, this.1, this.2⟩
      · rw [if_neg (fun h => g2 h.2), got_out g2]
        refine ⟨?_, i2, i3⟩
        rw [Int.sub_zero]
        exact IntWalk.wrap64_in _ ⟨i2, i3⟩
    · rw [if_neg g, if_neg (fun h => g h.1)]
      exact ⟨i1, i2, i3⟩
theorem dryF_iff {i q : Nat} : ∀ m, dryF pl R G i q m = true ↔ ∀ j, i < j → j < m → q ∈ rcR pl R j → gotG G j ≤ 0
  | 0 => ⟨fun _ j _ h => absurd h (Nat.not_lt_zero _), fun _ => rfl⟩
  | m + 1 => by
    have ih := dryF_iff (i := i) (q := q) m
    show (_ && _) = true ↔ _
    rw [Bool.and_eq_true, ih]
    simp only [Bool.not_eq_true', Bool.and_eq_false_iff, decide_eq_false_iff_not]
    constructor
    · rintro ⟨h1, h2⟩ j j1 j2 j3
      by_cases e : j = m
      · subst e
        rcases h2 with h | h | h
        · exact absurd j1 h
        · exact absurd j3 h
        · omega
      · exact h1 j j1 (by omega) j3
    · intro h
      refine ⟨fun j j1 j2 => h j j1 (by omega), ?_⟩
      by_cases g1 : i < m
      · by_cases g2 : q ∈ rcR pl R m
        · exact .inr (.inr (by have := h m g1 (by omega) g2; omega))
        · exact .inr (.inl g2)
      · exact .inl g1
theorem find_congr {l : List Nat} {p q : Nat → Bool} (h : ∀ x ∈ l, p x = q x) : l.find? p = l.find? q := by
  induction l with
  | nil => rfl
  | cons x l ih =>
    rw [List.find?_cons, List.find?_cons, h x (List.mem_cons_self ..), ih (fun y hy => h y (List.mem_cons_of_mem _ hy))]
theorem stopR_eq (hs : ∀ p, -9223372036854775808 ≤ sup p ∧ sup p ≤ 9223372036854775807) (i : Nat) : stopR pl R sup ns G i = stopF pl R sup ns G i := by
  unfold stopR stopF
  have h : ∀ q ∈ rcR pl R i, (decide (leftR pl R sup ns G R.length q ≤ 0) && dryF pl R G i q R.length) = (decide (leftW pl R sup ns G R.length q ≤ 0) && decide (lastW pl R G R.length q ≤ i)) := by
    intro q _
    rw [(leftR_eq hs R.length q).1]
    congr 1
    rw [Bool.eq_iff_iff, dryF_iff, decide_eq_true_eq, lastW_le]
    constructor
    · exact fun h j j1 j2 j3 _ => h j j1 j2 j3
    · intro h j j1 j2 j3
      by_cases g : j < G.length
      · exact h j j1 j2 j3 g
      · rw [got_out g]; exact Int.le_refl _
  rw [find_congr h]
  cases (rcR pl R i).find? (fun q => decide (leftW pl R sup ns G R.length q ≤ 0) && decide (lastW pl R G R.length q ≤ i)) <;> rfl
end
end Go.Proofs.YtkbceeobnbbfbaaDoor.CM

/- Walks of the small functions: a place's index, sums, the least number, membership. -/
namespace Go.Proofs.YtkbceeobnbbfbaaDoor
open Go.RowKit CM
attribute [local go_sem] alloc_drewN setCell_drewN shape_drewN

def BoolIs (b : Bool) (w : World) (e : Ending) (w' : World) : Prop := e = .returned (.bool b) ∧ Below w.heap.size w w'
def IntIs (n : Int) (w : World) (e : Ending) (w' : World) : Prop := e = .returned (.int .i64 n) ∧ w = w'
theorem isPl_neg {pl : Pl} {p : Int} (h : ¬ 0 ≤ p) : isPl pl p = false := by unfold isPl; rw [decide_eq_false h]; rfl
theorem isPl_pos {pl : Pl} {p : Int} (h : 0 ≤ p) : isPl pl p = decide (p < pl.length) := by unfold isPl; rw [decide_eq_true h]; rfl
theorem isPlace_any (X : Bas) (pl : Pl) (p : Int) (w : World) (hl : pl.length ≤ 9223372036854775807) : Calls Tryd.prog 41 #[.agg #[.string X.nm, .slice X.a1 X.l1 X.c1, .int .i64 X.cl, .slice X.P pl.length X.cP, .slice X.a4 X.l4 X.c4, .slice X.a5 X.l5 X.c5, .slice X.a6 X.l6 X.c6, .slice X.a7 X.l7 X.c7, .slice X.a8 X.l8 X.c8, .slice X.a9 X.l9 X.c9, .int .i64 X.er], .int .i64 p] w (BoolIs (isPl pl p) w) := by
  by_cases h : 0 ≤ p
  · have H := Lib.hid (isPl_pos (pl := pl) h)
    go_enter Tryd.func41, Tryd.ntmps41
    go_wp2_with fail
    go_ret
    exact ⟨ret_bool H.out.symm, (Below.refl _ _).alloc (Nat.le_refl _) _⟩
  · have H := Lib.hid (isPl_neg (pl := pl) h)
    go_enter Tryd.func41, Tryd.ntmps41
    go_wp2_with fail
    go_ret
    exact ⟨ret_bool H.out.symm, (Below.refl _ _).alloc (Nat.le_refl _) _⟩
theorem cisPlace_any (X : Bas) (pl : Pl) (p : Int) (w : World) (hl : pl.length ≤ 9223372036854775807) : Calls Tryd.prog 30 #[.agg #[.string X.nm, .slice X.a1 X.l1 X.c1, .int .i64 X.cl, .slice X.P pl.length X.cP, .slice X.a4 X.l4 X.c4, .slice X.a5 X.l5 X.c5, .slice X.a6 X.l6 X.c6, .slice X.a7 X.l7 X.c7, .slice X.a8 X.l8 X.c8, .slice X.a9 X.l9 X.c9, .int .i64 X.er], .int .i64 p] w (BoolIs (isPl pl p) w) := by
  by_cases h : 0 ≤ p
  · have H := Lib.hid (isPl_pos (pl := pl) h)
    go_enter Tryd.func30, Tryd.ntmps30
    go_wp2_with fail
    go_ret
    exact ⟨ret_bool H.out.symm, (Below.refl _ _).alloc (Nat.le_refl _) _⟩
  · have H := Lib.hid (isPl_neg (pl := pl) h)
    go_enter Tryd.func30, Tryd.ntmps30
    go_wp2_with fail
    go_ret
    exact ⟨ret_bool H.out.symm, (Below.refl _ _).alloc (Nat.le_refl _) _⟩
def In64 (a : Int) : Prop := -9223372036854775808 ≤ a ∧ a ≤ 9223372036854775807
theorem add_any (a b : Int) (w : World) (ha : In64 a) (hb : In64 b) : Calls Tryd.prog 40 #[.int .i64 a, .int .i64 b] w (IntIs (satA a b) w) := by
  obtain ⟨a1, a2⟩ := ha
  obtain ⟨b1, b2⟩ := hb
  have H : Hid (satA a b = if 0 < b ∧ 9223372036854775807 - b < a then 9223372036854775807 else if b < 0 ∧ a < -9223372036854775808 - b then -9223372036854775808 else a + b) := rfl
  by_cases g1 : 0 < b
  · by_cases g2 : 9223372036854775807 - b < a
    · have H : Hid (satA a b = 9223372036854775807) := by show _ = _; rw [H.out, if_pos ⟨g1, g2⟩]
      go_enter Tryd.func40, Tryd.ntmps40
      go_wp2_with fail
      go_ret
      exact ⟨ret_int H.out.symm, rfl⟩
    · have H : Hid (satA a b = a + b) := by show _ = _; rw [H.out, if_neg (fun h => g2 h.2), if_neg (by omega)]
      go_enter Tryd.func40, Tryd.ntmps40
      go_wp2_with fail
      go_ret
      exact ⟨ret_int H.out.symm, rfl⟩
  · by_cases g3 : b < 0
    · by_cases g4 : a < -9223372036854775808 - b
      · have H : Hid (satA a b = -9223372036854775808) := by show _ = _; rw [H.out, if_neg (fun h => g1 h.1), if_pos ⟨g3, g4⟩]
        go_enter Tryd.func40, Tryd.ntmps40
        go_wp2_with fail
        go_ret
        exact ⟨ret_int H.out.symm, rfl⟩
      · have H : Hid (satA a b = a + b) := by show _ = _; rw [H.out, if_neg (fun h => g1 h.1), if_neg (fun h => g4 h.2)]
        go_enter Tryd.func40, Tryd.ntmps40
        go_wp2_with fail
        go_ret
        exact ⟨ret_int H.out.symm, rfl⟩
    · have H : Hid (satA a b = a + b) := by show _ = _; rw [H.out, if_neg (fun h => g1 h.1), if_neg (fun h => g3 h.1)]
      go_enter Tryd.func40, Tryd.ntmps40
      go_wp2_with fail
      go_ret
      exact ⟨ret_int H.out.symm, rfl⟩
/-- The least of a number and a list. -/
def leastI (n : Int) (l : List Int) : Int := l.foldl (fun a x => if x < a then x else a) n
theorem leastI_snoc (n : Int) (l : List Int) (k : Nat) (x : Int) (h : l[k]? = some x) : leastI n (l.take (k + 1)) = if x < leastI n (l.take k) then x else leastI n (l.take k) := by
  unfold leastI
  rw [List.take_add_one, h, List.foldl_append]; rfl
theorem least_any (n : Int) (C : Option Addr) (cc : Nat) (l : List Int) (w : World) {B : Nat} (hC : IntsAt w B C l) (hl : l.length ≤ 9223372036854775807) : Calls Tryd.prog 24 #[.int .i64 n, .slice C l.length cc] w (IntIs (leastI n l) w) := by
  go_enter Tryd.func24, Tryd.ntmps24
  go_wp2_with fail
  go_loop [0, 9] (fun a i => ∃ (k : Nat) (m : Int), k ≤ l.length ∧ i = .int .i64 k ∧ a = .int .i64 m ∧ Hid (m = leastI n (l.take k))) (fun _ i => l.length - (intOf i).toNat)
  case atStart => exact ⟨0, n, Nat.zero_le _, rfl, rfl, rfl⟩
  case round =>
    obtain ⟨k, m, hk, rfl, rfl, hm⟩ := hrel
    by_cases hlt : k < l.length
    · obtain ⟨x, hx⟩ : ∃ x, l[k]? = some x := ⟨_, List.getElem?_eq_getElem hlt⟩
      obtain ⟨b, off, rfl, hb, c0⟩ := hC.at_ hx
      have hs := leastI_snoc n l k x hx
      rw [← hm.out] at hs
      clear hx hm
      by_cases g : x < m
      · have hs : Hid (x = leastI n (l.take (k + 1))) := by show _ = _; rw [hs, if_pos g]
        have e1 : (if x < m then x else m) = x := if_pos g
        have e2 : min m x = x := by omega
        go_wp2_with fail
        clear e1 e2
        go_round
        case rel => exact ⟨k + 1, x, by omega, by go_num, rfl, hs⟩
        case measure => simp [intOf]; omega
      · have hs : Hid (m = leastI n (l.take (k + 1))) := by show _ = _; rw [hs, if_neg g]
        have e1 : (if x < m then x else m) = m := if_neg g
        have e2 : min m x = m := by omega
        go_wp2_with fail
        clear e1 e2
        go_round
        case rel => exact ⟨k + 1, m, by omega, by go_num, rfl, hs⟩
        case measure => simp [intOf]; omega
    · have hke : k = l.length := by omega
      have hmE : Hid (m = leastI n l) := by show _ = _; rw [hm.out, hke, List.take_length]
      clear hm
      subst hke
      go_wp2_with fail
      go_ret
      exact ⟨ret_int hmE.out, rfl⟩
end Go.Proofs.YtkbceeobnbbfbaaDoor

/- The walk of Reach. -/
namespace Go.Proofs.YtkbceeobnbbfbaaDoor
open Go.RowKit CM
attribute [local go_sem] alloc_drewN setCell_drewN shape_drewN

theorem Tryd.infoInt : (Tryd.prog.info? 3).map (fun i => (i.zero, i.size, i.bytes)) = some (some (.int .i64 0), 1, 8) := by kernel_rfl
theorem Tryd.infoBool : (Tryd.prog.info? 4).map (fun i => (i.zero, i.size, i.bytes)) = some (some (.bool false), 1, 1) := by kernel_rfl
/-- A basin in a block of its own. -/
def BoxB (w : World) (b : Nat) (X : Bas) (pl : Pl) : Prop := w.heap[b]? = some (.cells #[.string X.nm, .slice X.a1 X.l1 X.c1, .int .i64 X.cl, .slice X.P pl.length X.cP, .slice X.a4 X.l4 X.c4, .slice X.a5 X.l5 X.c5, .slice X.a6 X.l6 X.c6, .slice X.a7 X.l7 X.c7, .slice X.a8 X.l8 X.c8, .slice X.a9 X.l9 X.c9, .int .i64 X.er] 31 (0, 0))
theorem BoxB.new (w : World) (X : Bas) (pl : Pl) : BoxB (w.alloc (.cells #[.string X.nm, .slice X.a1 X.l1 X.c1, .int .i64 X.cl, .slice X.P pl.length X.cP, .slice X.a4 X.l4 X.c4, .slice X.a5 X.l5 X.c5, .slice X.a6 X.l6 X.c6, .slice X.a7 X.l7 X.c7, .slice X.a8 X.l8 X.c8, .slice X.a9 X.l9 X.c9, .int .i64 X.er] 31)) w.heap.size X pl := heap_alloc_new w _
theorem BoxB.below {w w' : World} {b B : Nat} {X : Bas} {pl : Pl} (h : BoxB w b X pl) (hb : Below B w w') (hlt : b < B) : BoxB w' b X pl := (hb.block b hlt).trans h
theorem BoxB.cells {w : World} {b : Nat} {X : Bas} {pl : Pl} (h : BoxB w b X pl) : w.cell? ⟨b, 0, none⟩ = some (.string X.nm) ∧ w.cell? ⟨b, 1, none⟩ = some (.slice X.a1 X.l1 X.c1) ∧ w.cell? ⟨b, 2, none⟩ = some (.int .i64 X.cl) ∧ w.cell? ⟨b, 3, none⟩ = some (.slice X.P pl.length X.cP) ∧
    w.cell? ⟨b, 4, none⟩ = some (.slice X.a4 X.l4 X.c4) ∧ w.cell? ⟨b, 5, none⟩ = some (.slice X.a5 X.l5 X.c5) ∧ w.cell? ⟨b, 6, none⟩ = some (.slice X.a6 X.l6 X.c6) ∧ w.cell? ⟨b, 7, none⟩ = some (.slice X.a7 X.l7 X.c7) ∧ w.cell? ⟨b, 8, none⟩ = some (.slice X.a8 X.l8 X.c8) ∧ w.cell? ⟨b, 9, none⟩ = some (.slice X.a9 X.l9 X.c9) ∧ w.cell? ⟨b, 10, none⟩ = some (.int .i64 X.er) := by
  have h : w.heap[b]? = _ := h
  refine ⟨?_, ?_, ?_, ?_, ?_, ?_, ?_, ?_, ?_, ?_, ?_⟩ <;> simp [World.cell?, h]
theorem below_app {W w1 : World} {n₀ e size k : Nat} {v : Value} {xs : List Value} {tmp : Obj} (hrow : W.ownsRow n₀ e size v k xs) (hn₀ : n₀ ≤ W.heap.size) (hgrow : (W.alloc tmp).grownBy w1 v.ownBlock) : Below n₀ W w1 := by
  refine ((Below.refl n₀ W).alloc hn₀ tmp).grown hgrow (by simp; omega) fun j ej => ?_
  rcases hrow.2 with ⟨rfl, _⟩ | ⟨g, cap, cur, rfl, hb, _, _⟩
  · simp [Value.ownBlock] at ej
  · obtain rfl : g = j := by simpa [Value.ownBlock] using ej
    exact hb
theorem row_below {W w1 : World} {n₀ e size k : Nat} {v : Value} {xs : List Value} (hrow : W.ownsRow n₀ e size v k xs) (hb : Below W.heap.size W w1) : w1.ownsRow n₀ e size v k xs :=
  hrow.kept (row := none) ⟨hb.os, hb.tape, hb.output, hb.size, fun j hj _ => hb.block j hj⟩ (by
    rcases hrow.2 with ⟨rfl, _⟩ | ⟨g, cap, cur, rfl, hb, _, _⟩
    · exact .inl rfl
    · exact .inr (by simp [Value.ownBlock]))
theorem row_store {w : World} {n₀ e size k : Nat} {v : Value} {xs : List Value} (h : w.ownsRow n₀ e size v k xs) {p : Addr} (hp : p.block < n₀) (u : Value) : (w.setCell p u).ownsRow n₀ e size v k xs := by
  refine h.kept (row := some p.block) ⟨rfl, rfl, rfl, ((Below.refl 0 w).setCell (p := p) (Nat.zero_le _) u).size, fun j _ hj => Below.heap_setCell _ _ _ j (fun e => hj (by rw [e]))⟩ ?_
  rcases h.2 with ⟨rfl, _⟩ | ⟨g, cap, cur, rfl, hb, _, _⟩
  · exact .inl rfl
  · refine .inr ?_
    simp only [Value.ownBlock]
    intro e
    injection e with e
    omega
theorem cell_one_at {w : World} {b : Nat} (hb : w.heap.size = b) (e : Nat) (x : Value) : ∀ j u, [x][j]? = some u → (w.alloc (.cells #[x] e)).cell? ((⟨b, 0, none⟩ : Addr).add j) = some u := by
  subst hb; exact cell_one_new _ _ _
def natsV (l : List Nat) : List Value := l.map fun q : Nat => .int .i64 (q : Int)
def natsI (l : List Nat) : List Int := l.map fun q : Nat => (q : Int)
def lenV (v : Value) : Nat := match v with | .slice _ l _ => l | _ => 0
def ReachIs (l : List Nat) (w : World) (e : Ending) (w' : World) : Prop := ∃ C cc, e = .returned (.slice C l.length cc) ∧ IntsAt w' w'.heap.size C (natsI l) ∧ (∀ a, C = some a → w.heap.size ≤ a.block) ∧ Below w.heap.size w w'
theorem nats_of_owns {w : World} {base e : Nat} {v : Value} {l : List Nat} (h : w.ownsRow base e 1 v l.length (natsV l)) : ∃ C cc, v = .slice C l.length cc ∧ IntsAt w w.heap.size C (natsI l) ∧ ∀ a, C = some a → base ≤ a.block := by
  have e1 : natsV l = (natsI l).map (Value.int .i64) := by simp [natsV, natsI]
  have e2 : (natsI l).length = l.length := by simp [natsI]
  rw [e1, ← e2] at h
  have h0 := h
  obtain ⟨C, cc, h1, h2⟩ := ints_of_owns h
  rw [e2] at h1
  refine ⟨C, cc, h1, h2, fun a ha => ?_⟩
  subst ha
  rcases h0.2 with ⟨e, _⟩ | ⟨g, cap, cur, e, hb, _, _⟩
  · rw [h1] at e; injection e with e _ _; cases e
  · rw [h1] at e; injection e with e _ _; injection e with e; rw [e]; exact hb
theorem natsV_snoc (l : List Nat) (n : Nat) : natsV (l ++ [n]) = natsV l ++ [.int .i64 (n : Int)] := by simp [natsV]
theorem seen_snoc (acc : List Nat) (n j : Nat) : updF (fun j => .bool (decide (j ∈ acc))) n (.bool true) j = .bool (decide (j ∈ acc ++ [n])) := by
  unfold updF
  by_cases h : j = n
  · subst h; simp
  · rw [if_neg h]
    show Value.bool (decide (j ∈ acc)) = Value.bool (decide (j ∈ acc ++ [n]))
    congr 1
    simp [h]
theorem slice_ret {C : Option Addr} {cc : Nat} {a b : List Nat} (h : a = b) : Ending.returned (.slice C a.length cc) = .returned (.slice C b.length cc) := by rw [h]
/-- How the search for places stands. -/
structure RInv (pl : Pl) (p0 : Int) (acc : List Nat) (f : Nat) (p : Int) : Prop where
  eq : reach pl p0 = acc ++ reachG pl f p acc
  fuel : f + acc.length = pl.length + 1
  nd : acc.Nodup
  lt : ∀ q ∈ acc, q < pl.length
theorem RInv.start (pl : Pl) (p : Int) : RInv pl p [] (pl.length + 1) p := ⟨rfl, rfl, List.nodup_nil, fun _ h => nomatch h⟩
theorem RInv.len {pl : Pl} {p0 : Int} {acc : List Nat} {f : Nat} {p : Int} (h : RInv pl p0 acc f p) : acc.length ≤ pl.length := nodup_len _ _ h.nd h.lt
theorem RInv.stop {pl : Pl} {p0 : Int} {acc : List Nat} {f : Nat} {p : Int} (h : RInv pl p0 acc f p) (hn : ¬ (0 ≤ p ∧ p < pl.length ∧ p.toNat ∉ acc)) : reach pl p0 = acc := by rw [h.eq, reachG_no hn, List.append_nil]
theorem RInv.go {pl : Pl} {p0 : Int} {acc : List Nat} {f : Nat} {n : Nat} (h : RInv pl p0 acc f n) (hn : n < pl.length) (ha : n ∉ acc) :
    (24 ≤ delayP pl n → reach pl p0 = acc ++ [n]) ∧ (¬ 24 ≤ delayP pl n → RInv pl p0 (acc ++ [n]) (f - 1) (downP pl n)) := by
  have hl := h.len
  have hf := h.fuel
  obtain ⟨g, rfl⟩ : ∃ g, f = g + 1 := ⟨f - 1, by omega⟩
  have e := h.eq
  rw [reachG_yes hn ha] at e
  constructor
  · intro q; rw [if_pos q] at e; exact e
  · intro q
    rw [if_neg q] at e
    refine ⟨by rw [e]; simp, by simp; omega, ?_, fun m hm => ?_⟩
    · rw [List.nodup_append]
      exact ⟨h.nd, by simp, fun a ha1 b hb e1 => by simp at hb; subst hb; subst e1; exact ha ha1⟩
    · rcases List.mem_append.1 hm with q1 | q1
      · exact h.lt m q1
      · simp at q1; subst q1; exact hn
set_option maxRecDepth 100000 in
set_option maxHeartbeats 4000000 in
theorem reach_no (X : Bas) (pl : Pl) (p : Int) (w : World) {B : Nat} (hP : PlacesAt w B X.P pl) (hB : B ≤ w.heap.size) (hl : pl.length ≤ 1000000) (h0 : pl.length = 0) :
    Calls Tryd.prog 23 #[.agg #[.string X.nm, .slice X.a1 X.l1 X.c1, .int .i64 X.cl, .slice X.P pl.length X.cP, .slice X.a4 X.l4 X.c4, .slice X.a5 X.l5 X.c5, .slice X.a6 X.l6 X.c6, .slice X.a7 X.l7 X.c7, .slice X.a8 X.l8 X.c8, .slice X.a9 X.l9 X.c9, .int .i64 X.er], .int .i64 p] w (ReachIs (reach pl p) w) := by
  obtain ⟨i0, hi, hz0, hz1, hz2⟩ := info_parts Tryd.infoInt
  obtain ⟨i1, ki, kz0, kz1, kz2⟩ := info_parts Tryd.infoBool
  have hmk := fun wx => run_make1 (P := Tryd.prog) 95 4 i1 (.bool false) Tryd.underlying95 ki kz0 kz1 rfl pl.length pl.length (Nat.le_refl _) (by rw [kz2]; omega) (by omega) wx
  have K1 := fun p wx => isPlace_any X pl p wx (by omega)
  unfold BoolIs at K1
  have H0 := Lib.hid h0
  clear h0
  have K1 := Lib.hid K1
  go_enter Tryd.func23, Tryd.ntmps23
  go_wp2_with fail
  clear hmk
  go_loopw [1, 5] (fun q out wr => ∃ (acc : List Nat) (f : Nat) (p1 : Int), q = .int .i64 p1 ∧ Hid (RInv pl p acc f p1) ∧ lenV out = acc.length ∧ wr.ownsRow (w.heap.size + 1 + 1) 3 1 out acc.length (natsV acc) ∧
      Arr wr (w.heap.size + 1) pl.length (fun j => .bool (decide (j ∈ acc))) ∧ BoxB wr w.heap.size X pl ∧ Below w.heap.size w wr ∧ w.heap.size + 1 + 1 ≤ wr.heap.size) (fun _ out _ => pl.length + 1 - lenV out)
  case atStart =>
    refine ⟨[], pl.length + 1, p, rfl, RInv.start pl p, rfl, World.ownsRow_nil _ _ _ _, ?_, ?_, ((Below.refl _ _).alloc (Nat.le_refl _) _).alloc (by simp) _, by simp⟩
    · have m1 := Arr.made (w.alloc (.cells #[.string X.nm, .slice X.a1 X.l1 X.c1, .int .i64 X.cl, .slice X.P pl.length X.cP, .slice X.a4 X.l4 X.c4, .slice X.a5 X.l5 X.c5, .slice X.a6 X.l6 X.c6, .slice X.a7 X.l7 X.c7, .slice X.a8 X.l8 X.c8, .slice X.a9 X.l9 X.c9, .int .i64 X.er] 31)) (.bool false) pl.length 4
      rw [World.size_alloc] at m1
      exact m1.congr (fun j _ => by simp)
    · exact (BoxB.new w X pl).below (B := w.heap.size + 1) ((Below.refl _ _).alloc (by simp) _) (by omega)
  case round =>
    obtain ⟨acc, f, p1, rfl, hR, hlo, hrow, hA, hX, hBw, hz⟩ := hrel
    obtain ⟨x0, x1, x2, x3, x4, x5, x6, x7, x8, x9, x10⟩ := hX.cells
    by_cases hp : isPl pl p1 = true
    case pos => exact absurd hp (by have := H0.out; unfold isPl; simp; omega)
    case neg =>
      have hp : isPl pl p1 = false := by simpa using hp
      have hst : Hid (reach pl p = acc) := hR.out.stop (fun h => by unfold isPl at hp; simp at hp; have := hp h.1; omega)
      have K2 := fun wx => K1.out p1 wx
      simp only [hp] at K2
      have K2 := Lib.hid K2
      clear hp K1 hR
      go_wp2_with (first | (go_at_call 41; ((with_reducible refine (K2.out _).mono ?_); rintro e1 w1 ⟨rfl, hb1⟩)) | fail)
      have hr := row_below hrow hb1
      obtain ⟨C, cc, rfl, hI, hF⟩ := nats_of_owns hr
      go_ret
      exact ⟨C, cc, slice_ret hst.out.symm, by rw [hst.out]; exact hI, fun a ha => by have := hF a ha; omega, hBw.trans (hb1.mono hBw.size)⟩
set_option maxRecDepth 100000 in
set_option maxHeartbeats 4000000 in
theorem reach_yes (X : Bas) (pl : Pl) (p : Int) (w : World) {B : Nat} (hP : PlacesAt w B X.P pl) (hB : B ≤ w.heap.size) (hl : pl.length ≤ 1000000) (h0 : 0 < pl.length) :
    Calls Tryd.prog 23 #[.agg #[.string X.nm, .slice X.a1 X.l1 X.c1, .int .i64 X.cl, .slice X.P pl.length X.cP, .slice X.a4 X.l4 X.c4, .slice X.a5 X.l5 X.c5, .slice X.a6 X.l6 X.c6, .slice X.a7 X.l7 X.c7, .slice X.a8 X.l8 X.c8, .slice X.a9 X.l9 X.c9, .int .i64 X.er], .int .i64 p] w (ReachIs (reach pl p) w) := by
  obtain ⟨i0, hi, hz0, hz1, hz2⟩ := info_parts Tryd.infoInt
  obtain ⟨i1, ki, kz0, kz1, kz2⟩ := info_parts Tryd.infoBool
  have hmk := fun wx => run_make1 (P := Tryd.prog) 95 4 i1 (.bool false) Tryd.underlying95 ki kz0 kz1 rfl pl.length pl.length (Nat.le_refl _) (by rw [kz2]; omega) (by omega) wx
  have K1 := fun p wx => isPlace_any X pl p wx (by omega)
  unfold BoolIs at K1
  obtain ⟨bq, oq, hPe, hbq, hcq⟩ := hP h0
  simp only [hPe] at K1
  have hcq := Lib.hid hcq
  have K1 := Lib.hid K1
  go_enter Tryd.func23, Tryd.ntmps23
  go_wp2_with fail
  clear hmk
  go_loopw [1, 5] (fun q out wr => ∃ (acc : List Nat) (f : Nat) (p1 : Int), q = .int .i64 p1 ∧ Hid (RInv pl p acc f p1) ∧ lenV out = acc.length ∧ wr.ownsRow (w.heap.size + 1 + 1) 3 1 out acc.length (natsV acc) ∧
      Arr wr (w.heap.size + 1) pl.length (fun j => .bool (decide (j ∈ acc))) ∧ BoxB wr w.heap.size X pl ∧ Below w.heap.size w wr ∧ w.heap.size + 1 + 1 ≤ wr.heap.size) (fun _ out _ => pl.length + 1 - lenV out)
  case atStart =>
    refine ⟨[], pl.length + 1, p, rfl, RInv.start pl p, rfl, World.ownsRow_nil _ _ _ _, ?_, ?_, ((Below.refl _ _).alloc (Nat.le_refl _) _).alloc (by simp) _, by simp⟩
    · have m1 := Arr.made (w.alloc (.cells #[.string X.nm, .slice X.a1 X.l1 X.c1, .int .i64 X.cl, .slice X.P pl.length X.cP, .slice X.a4 X.l4 X.c4, .slice X.a5 X.l5 X.c5, .slice X.a6 X.l6 X.c6, .slice X.a7 X.l7 X.c7, .slice X.a8 X.l8 X.c8, .slice X.a9 X.l9 X.c9, .int .i64 X.er] 31)) (.bool false) pl.length 4
      rw [World.size_alloc] at m1
      rw [hPe] at m1
      exact m1.congr (fun j _ => by simp)
    · have q0 := BoxB.new w X pl
      rw [hPe] at q0
      exact q0.below (B := w.heap.size + 1) ((Below.refl _ _).alloc (by simp) _) (by omega)
  case round =>
    obtain ⟨acc, f, p1, rfl, hR, hlo, hrow, hA, hX, hBw, hz⟩ := hrel
    obtain ⟨x0, x1, x2, x3, x4, x5, x6, x7, x8, x9, x10⟩ := hX.cells
    rw [hPe] at x3
    by_cases hp : isPl pl p1 = true
    case neg =>
      have hp : isPl pl p1 = false := by simpa using hp
      have hst : Hid (reach pl p = acc) := hR.out.stop (fun h => by unfold isPl at hp; simp at hp; have := hp h.1; omega)
      have K2 := fun wx => K1.out p1 wx
      simp only [hp] at K2
      have K2 := Lib.hid K2
      clear hp K1 hR
      go_wp2_with (first | (go_at_call 41; ((with_reducible refine (K2.out _).mono ?_); rintro e1 w1 ⟨rfl, hb1⟩)) | fail)
      have hr := row_below hrow hb1
      obtain ⟨C, cc, rfl, hI, hF⟩ := nats_of_owns hr
      go_ret
      exact ⟨C, cc, slice_ret hst.out.symm, by rw [hst.out]; exact hI, fun a ha => by have := hF a ha; omega, hBw.trans (hb1.mono hBw.size)⟩
    obtain ⟨n, rfl⟩ : ∃ n : Nat, p1 = n := ⟨p1.toNat, by unfold isPl at hp; simp at hp; omega⟩
    have hn : n < pl.length := by unfold isPl at hp; simp at hp; omega
    obtain ⟨a0, f0⟩ := hA n hn
    dsimp only at a0
    have K2 := fun wx => K1.out (n : Int) wx
    simp only [hp] at K2
    have K2 := Lib.hid K2
    have hal := hR.out.len
    by_cases hm : n ∈ acc
    · have hst : Hid (reach pl p = acc) := hR.out.stop (fun h => h.2.2 (by simpa using hm))
      rw [decide_eq_true hm] at a0
      clear hp K1 hR hm
      go_wp2_with (first | (go_at_call 41; ((with_reducible refine (K2.out _).mono ?_); rintro e1 w1 ⟨rfl, hb1⟩; have a0 := (hb1.cell (p := ⟨w.heap.size + 1, n, none⟩) (by show w.heap.size + 1 < _; omega)).trans a0)) | fail)
      have hr := row_below hrow hb1
      obtain ⟨C, cc, rfl, hI, hF⟩ := nats_of_owns hr
      go_ret
      exact ⟨C, cc, slice_ret hst.out.symm, by rw [hst.out]; exact hI, fun a ha => by have := hF a ha; omega, hBw.trans (hb1.mono hBw.size)⟩
    · obtain ⟨r1, r2⟩ := hR.out.go hn hm
      rw [decide_eq_false hm] at a0
      have hlen := hal
      have HA := Lib.hid hm
      clear hp K1 hR hm
      obtain ⟨c8, c9⟩ := hcq.out n hn
      have dl := Lib.hid (rfl : delayP pl n = delayP pl n)
      by_cases hd : 24 ≤ delayP pl n
      · have r1 := Lib.hid (r1 hd)
        clear r2 dl
        go_wp2_with (first | (go_at_call 41; ((with_reducible refine (K2.out _).mono ?_); rintro e1 w1 ⟨rfl, hb1⟩; have a0 := (hb1.cell (p := ⟨w.heap.size + 1, n, none⟩) (by show w.heap.size + 1 < _; omega)).trans a0; have f0 := (hb1.frozen (p := ⟨w.heap.size + 1, n, none⟩) (by show w.heap.size + 1 < _; omega)).trans f0; have hzw := hb1.size; have hrow1 := row_store (row_below hrow hb1) (p := ⟨w.heap.size + 1, n, none⟩) (by simp) (.bool true); have hB1 : Below w.heap.size w (w1.setCell ⟨w.heap.size + 1, n, none⟩ (.bool true)) := (hBw.trans (hb1.mono hBw.size)).setCell (p := ⟨w.heap.size + 1, n, none⟩) (by simp) _; have hA1 := ((hA.below hb1 (by omega)).set hn (.bool true)); have hX1 : BoxB (w1.setCell ⟨w.heap.size + 1, n, none⟩ (.bool true)) w.heap.size X pl := (hX.below hb1 (by omega)).below (B := w.heap.size + 1) ((Below.refl _ _).setCell (p := ⟨w.heap.size + 1, n, none⟩) (Nat.le_refl _) _) (by omega))) | (at_builtin; refine wpList_append_own _ rfl _ _ 29 rfl (w.heap.size + 1 + 1) 3 i0 (.int .i64 0) 1 8 Tryd.underlying29 hi hz0 hz1 hz2 rfl (by decide) _ acc.length _ rfl (hrow1.alloc _) ⟨w1.heap.size, 0, none⟩ 1 1 [.int .i64 n] rfl rfl (cell_one_at (by simp) _ _) (by simp [Value.oneCell']) (by unfold maxLen; omega) (by omega) (by simp; omega) ?_; intro v' w2 hown' hgrow _; obtain ⟨g', cap', rfl, hg1, hg2⟩ := hown'.form (by omega); have hb2 := below_app hrow1 (by simp; omega) hgrow; have x3b := (hX1.below hb2 (by omega)).cells.2.2.2.1; rw [hPe] at x3b; have hBw2 := hB1.trans (hb2.mono (by omega)); have c8 := (hBw2.cell (p := ⟨bq, _, none⟩) (by show bq < _; omega)).trans c8; have c9 := (hBw2.cell (p := ⟨bq, _, none⟩) (by show bq < _; omega)).trans c9) | fail)
        have hr2 : w2.ownsRow (w.heap.size + 1 + 1) 3 1 (.slice (some ⟨g', 0, none⟩) (acc.length + 1) cap') (acc ++ [n]).length (natsV (acc ++ [n])) := by rw [natsV_snoc, List.length_append]; exact hown'
        rw [← r1.out] at hr2
        obtain ⟨C, cc, he, hI, hF⟩ := nats_of_owns hr2
        go_ret
        exact ⟨C, cc, by rw [← he]; rfl, hI, fun a ha => by have := hF a ha; omega, hBw2⟩
      · have r3 := Lib.hid (r2 hd)
        clear r1 r2 dl
        go_wp2_with (first | (go_at_call 41; ((with_reducible refine (K2.out _).mono ?_); rintro e1 w1 ⟨rfl, hb1⟩; have a0 := (hb1.cell (p := ⟨w.heap.size + 1, n, none⟩) (by show w.heap.size + 1 < _; omega)).trans a0; have f0 := (hb1.frozen (p := ⟨w.heap.size + 1, n, none⟩) (by show w.heap.size + 1 < _; omega)).trans f0; have hzw := hb1.size; have hrow1 := row_store (row_below hrow hb1) (p := ⟨w.heap.size + 1, n, none⟩) (by simp) (.bool true); have hB1 : Below w.heap.size w (w1.setCell ⟨w.heap.size + 1, n, none⟩ (.bool true)) := (hBw.trans (hb1.mono hBw.size)).setCell (p := ⟨w.heap.size + 1, n, none⟩) (by simp) _; have hA1 := ((hA.below hb1 (by omega)).set hn (.bool true)); have hX1 : BoxB (w1.setCell ⟨w.heap.size + 1, n, none⟩ (.bool true)) w.heap.size X pl := (hX.below hb1 (by omega)).below (B := w.heap.size + 1) ((Below.refl _ _).setCell (p := ⟨w.heap.size + 1, n, none⟩) (Nat.le_refl _) _) (by omega))) | (at_builtin; refine wpList_append_own _ rfl _ _ 29 rfl (w.heap.size + 1 + 1) 3 i0 (.int .i64 0) 1 8 Tryd.underlying29 hi hz0 hz1 hz2 rfl (by decide) _ acc.length _ rfl (hrow1.alloc _) ⟨w1.heap.size, 0, none⟩ 1 1 [.int .i64 n] rfl rfl (cell_one_at (by simp) _ _) (by simp [Value.oneCell']) (by unfold maxLen; omega) (by omega) (by simp; omega) ?_; intro v' w2 hown' hgrow _; obtain ⟨g', cap', rfl, hg1, hg2⟩ := hown'.form (by omega); have hb2 := below_app hrow1 (by simp; omega) hgrow; have x3b := (hX1.below hb2 (by omega)).cells.2.2.2.1; rw [hPe] at x3b; have hBw2 := hB1.trans (hb2.mono (by omega)); have c8 := (hBw2.cell (p := ⟨bq, _, none⟩) (by show bq < _; omega)).trans c8; have c9 := (hBw2.cell (p := ⟨bq, _, none⟩) (by show bq < _; omega)).trans c9) | fail)
        have hr2 : w2.ownsRow (w.heap.size + 1 + 1) 3 1 (.slice (some ⟨g', 0, none⟩) (acc.length + 1) cap') (acc ++ [n]).length (natsV (acc ++ [n])) := by rw [natsV_snoc, List.length_append]; exact hown'
        have hA2 : Arr w2 (w.heap.size + 1) pl.length (fun j => .bool (decide (j ∈ acc ++ [n]))) := (hA1.below hb2 (by omega)).congr (fun j _ => seen_snoc acc n j)
        have hX2 := hX1.below hb2 (by omega)
        have hz2 : w.heap.size + 1 + 1 ≤ w2.heap.size := by have := hb2.size; simp at this; omega
        clear hown' hgrow hA1 hX1 hb2 hrow1 hrow hA hX x0 x1 x2 x3 x4 x5 x6 x7 x8 x9 x10 x3b c8 c9 a0 f0 hB1 hb1 hBw
        rw [hPe]
        go_roundw
        case rel => exact ⟨acc ++ [n], f - 1, downP pl n, rfl, r3, by simp [lenV], hr2, hA2, hX2, hBw2, hz2⟩
        case measure =>
          show pl.length + 1 - (acc.length + 1) < pl.length + 1 - lenV _
          rw [hlo]; omega
theorem reach_any (X : Bas) (pl : Pl) (p : Int) (w : World) {B : Nat} (hP : PlacesAt w B X.P pl) (hB : B ≤ w.heap.size) (hl : pl.length ≤ 1000000) :
    Calls Tryd.prog 23 #[.agg #[.string X.nm, .slice X.a1 X.l1 X.c1, .int .i64 X.cl, .slice X.P pl.length X.cP, .slice X.a4 X.l4 X.c4, .slice X.a5 X.l5 X.c5, .slice X.a6 X.l6 X.c6, .slice X.a7 X.l7 X.c7, .slice X.a8 X.l8 X.c8, .slice X.a9 X.l9 X.c9, .int .i64 X.er], .int .i64 p] w (ReachIs (reach pl p) w) := by
  rcases Nat.eq_zero_or_pos pl.length with h | h
  · exact reach_no X pl p w hP hB hl h
  · exact reach_yes X pl p w hP hB hl h
end Go.Proofs.YtkbceeobnbbfbaaDoor

/- A region that draws its order, by a plan: what reads is taken first, what writes comes up alone; a condition on the world holds behind every write but the last one, which waits for all. -/
namespace Go.Proofs.YtkbceeobnbbfbaaDoor.Plan
open Go
section
variable {P : Program} {ops : Array Oper} {Q : Exit → Act → World → Prop} {md : Region.Mode} {S : World → Prop} {last : Nat}

/-- Whatever order is picked from here on; the condition holds behind every operation but the last. -/
def wpAnyT (P : Program) (md : Region.Mode) (ops : Array Oper) (Q : Exit → Act → World → Prop) (S : World → Prop) (last : Nat) : Nat → Array Bool → Act → World → Prop
  | 0, listed, a, w => Region.ready md ops listed = [] ∧ Q .normal a w
  | f + 1, listed, a, w => (Region.ready md ops listed = [] → Q .normal a w) ∧ ∀ i ∈ Region.ready md ops listed, wpOp P ops Q i (fun a' w' => (i = last ∨ S w') ∧ wpAnyT P md ops Q S last f (listed.setIfInBounds i true) a' w') a w
theorem any_of_T : ∀ (f : Nat) (listed : Array Bool) (a : Act) (w : World), wpAnyT P md ops Q S last f listed a w → wpAny P md ops Q f listed a w
  | 0, _, _, _, h => h
  | f + 1, _, _, _, h => ⟨h.1, fun i hi => wpOp_mono (fun a' w' h' => any_of_T f _ a' w' h'.2) (h.2 i hi)⟩
def waits (md : Region.Mode) (ops : Array Oper) (j i : Nat) : Bool := match ops[j]? with
  | some oj => oj.after.any fun e => Region.binds md e && e.on == i
  | none => false
theorem waits_not_ready {j i : Nat} {listed : Array Bool} (h : waits md ops j i = true) (hu : listed.getD i false = false) : j ∉ Region.ready md ops listed := by
  intro hj
  obtain ⟨_, o, ho, hall⟩ := mem_ready.1 hj
  simp only [waits, ho] at h
  obtain ⟨e, he, hb⟩ := Array.any_eq_true'.1 h
  simp only [Bool.and_eq_true, beq_iff_eq] at hb
  have := hall e he hb.1
  rw [hb.2, hu] at this
  cases this
theorem unlisted {i : Nat} {listed : Array Bool} (h : listed.getD i true = false) : listed.getD i false = false := by
  rcases Nat.lt_or_ge i listed.size with h' | h'
  · simp [h'] at h ⊢; exact h
  · simp [Array.getElem?_eq_none h'] at h
/-- What reads may be taken first. -/
theorem first_T {i : Nat} {oi : Oper} {v : Value} (hi : ops[i]? = some oi) (hsel : ∀ (j : Nat) (o : Oper) cs b, ops[j]? = some o → o.op ≠ .select cs b) (hQ : ∀ c a w, Q (.panic c) (a.put oi.dst v) w → Q (.panic c) a w) (hw : waits md ops last i = true) (hil : i ≠ last) :
    ∀ (f : Nat) (listed : Array Bool) (a : Act) (w : World),
      (∀ j oj, ops[j]? = some oj → j ≠ i → listed.getD j true = false → (∀ e ∈ oj.after, Region.binds md e = true → e.on ≠ i) → oi.apart ops oj = true) →
      i ∈ Region.ready md ops listed → YieldsIf P ops S oi v a → S w → wpAnyT P md ops Q S last f (listed.setIfInBounds i true) (a.put oi.dst v) w → wpAnyT P md ops Q S last (f + 1) listed a w := by
  intro f
  induction f with
  | zero =>
    intro listed a w _ hr hy hS H
    refine ⟨fun h => (by rw [h] at hr; cases hr), fun j hj => ?_⟩
    by_cases e : j = i
    · subst e; exact hy.wpOp hi hS ⟨.inr hS, H⟩
    · have := ready_mono hj e
      rw [H.1] at this
      cases this
  | succ f ih =>
    intro listed a w hfree hr hy hS H
    have hun := (mem_ready.1 hr).1
    refine ⟨fun h => (by rw [h] at hr; cases hr), fun j hj => ?_⟩
    by_cases e : j = i
    · subst e; exact hy.wpOp hi hS ⟨.inr hS, H⟩
    · have hjl : j ≠ last := fun g => waits_not_ready hw (unlisted hun) (g ▸ hj)
      have h1 := H.2 j (ready_mono hj e)
      obtain ⟨hjun, oj, hoj, hall⟩ := mem_ready.1 hj
      have hnot : ∀ e ∈ oj.after, Region.binds md e = true → e.on ≠ i := fun e he hb g => by
        have h2 := hall e he hb
        rw [g, unlisted hun] at h2
        cases h2
      have h2 := wpOp_putIf hoj (hfree j oj hoj e hjun hnot) (fun cs b => hsel i oi cs b hi) (fun cs b => hsel j oj cs b hoj) hQ hy h1
      have hfree' : ∀ k ok, ops[k]? = some ok → k ≠ i → (listed.setIfInBounds j true).getD k true = false → (∀ e ∈ ok.after, Region.binds md e = true → e.on ≠ i) → oi.apart ops ok = true := fun k ok hk hki hku hno => by
        refine hfree k ok hk hki ?_ hno
        by_cases g : j = k
        · subst g; exact hjun
        · rw [getD_set_ne true g] at hku; exact hku
      refine wpOp_mono (fun a' w' h3 => ?_) h2
      have hS' : S w' := h3.2.1.resolve_left hjl
      refine ⟨.inr hS', ih (listed.setIfInBounds j true) a' w' hfree' (ready_mono hr (Ne.symm e)) h3.1 hS' ?_⟩
      rw [Array.setIfInBounds_comm _ _ e]
      exact h3.2.2

/-- The plan: true: an operation that reads; false: one that writes. -/
def wpPlan (P : Program) (ops : Array Oper) (Q : Exit → Act → World → Prop) (S : World → Prop) : List (Nat × Bool) → Act → World → Prop
  | [], a, w => Q .normal a w
  | (i, true) :: r, a, w => ∃ o v, ops[i]? = some o ∧ YieldsIf P ops S o v a ∧ wpPlan P ops Q S r (a.put o.dst v) w
  | (i, false) :: r, a, w => wpOp P ops Q i (fun a' w' => (r = [] ∨ S w') ∧ wpPlan P ops Q S r a' w') a w
def planB (md : Region.Mode) (ops : Array Oper) (last : Nat) : List (Nat × Bool) → Array Bool → Bool
  | [], listed => (Region.ready md ops listed).isEmpty
  | (i, true) :: r, listed => (Region.ready md ops listed).contains i && Region.free md ops listed i && waits md ops last i && i != last && planB md ops last r (listed.setIfInBounds i true)
  | (i, false) :: r, listed => decide (Region.ready md ops listed = [i]) && (!r.isEmpty || i == last) && planB md ops last r (listed.setIfInBounds i true)
theorem plan_T (hsel : Region.noSelect ops = true) (hQ : ∀ c a d v w, Q (.panic c) (Act.put a d v) w → Q (.panic c) a w) : ∀ (plan : List (Nat × Bool)) (listed : Array Bool) (a : Act) (w : World), planB md ops last plan listed = true → (plan = [] ∨ S w) → wpPlan P ops Q S plan a w →
    wpAnyT P md ops Q S last plan.length listed a w
  | [], listed, a, w, hB, _, h => ⟨by simpa [planB] using hB, h⟩
  | (i, true) :: r, listed, a, w, hB, hS, h => by
    simp only [planB, Bool.and_eq_true] at hB
    obtain ⟨⟨⟨⟨h1, h2⟩, h3⟩, h4⟩, h5⟩ := hB
    obtain ⟨o, v, ho, hy, hr⟩ := h
    have hS' : S w := hS.resolve_left (by simp)
    exact first_T ho (Region.noSelect_spec hsel) (fun c a w => hQ c a _ _ w) h3 (by simpa using h4) r.length listed a w (Region.free_spec ho h2) (by simpa using h1) hy hS' (plan_T hsel hQ r _ _ _ h5 (.inr hS') hr)
  | (i, false) :: r, listed, a, w, hB, hS, h => by
    simp only [planB, Bool.and_eq_true, decide_eq_true_eq] at hB
    obtain ⟨⟨h1, h2⟩, h3⟩ := hB
    refine ⟨fun h0 => (by rw [h1] at h0; cases h0), fun j hj => ?_⟩
    rw [h1] at hj
    obtain rfl : j = i := by simpa using hj
    refine wpOp_mono (fun a' w' h' => ⟨?_, plan_T hsel hQ r _ a' w' h3 h'.1 h'.2⟩) h
    rcases h'.1 with e | e
    · subst e; left; simpa using h2
    · exact .inr e
theorem wp_region_plan {id : Nat} {l : List Oper} {a : Act} {w : World} (S : World → Prop) (last : Nat) (plan : List (Nat × Bool)) (hm : P.follows .mixedOrders = true) (hB : (Region.noSelect l.toArray && decide (plan.length = l.length) && planB .any l.toArray last plan (Array.replicate l.length false)) = true)
    (hS : S w.drew) (h : wpPlan P l.toArray (NoPanic Q) S plan a w.drew) : (Code.region id l.toArray true).wp P Q a w := by
  simp only [Bool.and_eq_true, decide_eq_true_eq] at hB
  obtain ⟨⟨h1, h2⟩, h3⟩ := hB
  refine wp_region_noPanic (wp_region_any hm (any_of_T (S := S) (last := last) _ _ _ _ ?_))
  rw [show l.toArray.size = plan.length by simp [h2]]
  rw [← h2] at h3
  exact plan_T h1 (fun _ _ _ _ _ h => h) plan _ a _ h3 (.inr hS) h
theorem plan_end {l : List Oper} {a : Act} {w : World} (h : Q .normal a w) : wpPlan P l.toArray (NoPanic Q) S [] a w := h
theorem list_op {l : List Oper} {i : Nat} {o : Oper} (h : l[i]? = some o) : l.toArray[i]? = some o := by simpa using h
/-- A step that reads. -/
theorem plan_read {l : List Oper} {i : Nat} {o : Oper} {v : Value} {r : List (Nat × Bool)} {a : Act} {w : World} (ho : l[i]? = some o) (hw : Region.wanted o (yielded l.toArray a.tmps) = true) (hy : ∀ w, S w → (execOp a.eval o).run P w = .ok (.value v) w)
    (h : wpPlan P l.toArray Q S r (a.put o.dst v) w) : wpPlan P l.toArray Q S ((i, true) :: r) a w := ⟨o, v, list_op ho, .inl ⟨hw, hy⟩, h⟩
theorem plan_skip {l : List Oper} {i : Nat} {o : Oper} {r : List (Nat × Bool)} {a : Act} {w : World} (ho : l[i]? = some o) (hw : Region.wanted o (yielded l.toArray a.tmps) = false)
    (h : wpPlan P l.toArray Q S r (a.put o.dst undef) w) : wpPlan P l.toArray Q S ((i, true) :: r) a w := ⟨o, undef, list_op ho, .inr ⟨hw, rfl⟩, h⟩
/-- A step that writes, and is not the last. -/
theorem plan_write {l : List Oper} {i : Nat} {o : Oper} {r : List (Nat × Bool)} {a : Act} {w : World} (ho : l[i]? = some o)
    (h : ∀ K : Act → World → Prop, Shut (∀ a' w', S w' → wpPlan P l.toArray Q S r a' w' → K a' w') → if Region.wanted o (yielded l.toArray a.tmps) = true then Oper.wp P o a w K Q else K (a.put o.dst undef) w) : wpPlan P l.toArray Q S ((i, false) :: r) a w :=
  wpOp_step (list_op ho) fun K hK => h K fun a' w' h1 h2 => hK a' w' ⟨.inr h1, h2⟩
theorem plan_last {l : List Oper} {i : Nat} {o : Oper} {a : Act} {w : World} (ho : l[i]? = some o)
    (h : ∀ K : Act → World → Prop, Shut (∀ a' w', Q .normal a' w' → K a' w') → if Region.wanted o (yielded l.toArray a.tmps) = true then Oper.wp P o a w K (NoPanic Q) else K (a.put o.dst undef) w) : wpPlan P l.toArray (NoPanic Q) S [(i, false)] a w :=
  wpOp_step (list_op ho) fun K hK => h K fun a' w' h1 => hK a' w' ⟨.inl rfl, h1⟩
end
end Go.Proofs.YtkbceeobnbbfbaaDoor.Plan

/- The walk of begin. -/
namespace Go.Proofs.YtkbceeobnbbfbaaDoor
open Go.RowKit CM
attribute [local go_sem] alloc_drewN setCell_drewN shape_drewN

def supF (S : List Int) (p : Nat) : Int := S.getD p 0
/-- What is there while the water of place k goes down: the first j places have it. -/
def midN (pl : Pl) (S : List Int) (k : Nat) (l : List Nat) (q : Nat) : Int := if q ∈ l then satA (thereN pl (supF S) k q) (supF S k) else thereN pl (supF S) k q
def thV (pl : Pl) (S : List Int) (k : Nat) : Nat → Value := fun q => .int .i64 (thereN pl (supF S) k q)
def midV (pl : Pl) (S : List Int) (k : Nat) (l : List Nat) : Nat → Value := fun q => .int .i64 (midN pl S k l q)
theorem thV_dry {pl : Pl} {S : List Int} {k : Nat} (h : ¬ 0 < supF S k) : thV pl S (k + 1) = thV pl S k := by
  funext q; unfold thV; rw [thereN_succ, if_neg (fun g => h g.1)]
theorem midV_nil (pl : Pl) (S : List Int) (k : Nat) : midV pl S k [] = thV pl S k := by
  funext q; unfold midV thV midN; rw [if_neg (by simp)]
theorem midV_all {pl : Pl} {S : List Int} {k : Nat} (h : 0 < supF S k) : midV pl S k (reach pl k) = thV pl S (k + 1) := by
  funext q; unfold midV thV midN; rw [thereN_succ]
  by_cases g : q ∈ reach pl k
  · rw [if_pos g, if_pos ⟨h, g⟩]
  · rw [if_neg g, if_neg (fun e => g e.2)]
theorem midV_snoc (pl : Pl) (S : List Int) (k : Nat) (l : List Nat) (q j : Nat) : updF (midV pl S k l) q (.int .i64 (satA (thereN pl (supF S) k q) (supF S k))) j = midV pl S k (l ++ [q]) j := by
  unfold updF midV midN
  by_cases h : j = q
  · subst h; simp
  · rw [if_neg h]; simp [h]
theorem supF_in {S : List Int} (hS : ∀ x ∈ S, In64 x) (p : Nat) : In64 (supF S p) := by
  unfold supF
  rw [List.getD_eq_getElem?_getD]
  cases e : S[p]? with
  | none => simp [In64]
  | some x => exact hS x (List.mem_of_getElem? e)
theorem midN_new {pl : Pl} {S : List Int} {k : Nat} {l : List Nat} {q : Nat} (h : q ∉ l) : midN pl S k l q = thereN pl (supF S) k q := if_neg h
/-- What begin leaves. -/
def BeginIs (pl : Pl) (S : List Int) (w : World) (e : Ending) (w' : World) : Prop := e = .returned (.slice (some ⟨w.heap.size + 1, 0, none⟩) pl.length pl.length) ∧ Arr w' (w.heap.size + 1) pl.length (thV pl S (min pl.length S.length)) ∧ Below w.heap.size w w' ∧ w.heap.size + 1 < w'.heap.size
def ListAt (w : World) (b off : Nat) (l : List Nat) : Prop := ∀ (j q : Nat), l[j]? = some q → w.cell? ⟨b, off + j, none⟩ = some (.int .i64 (q : Int))
theorem ListAt.far {w : World} {b off : Nat} {l : List Nat} (h : ListAt w b off l) {p : Addr} (hp : b ≠ p.block) (u : Value) : ListAt (w.setCell p u) b off l := fun j q hj =>
  (World.cell?_of_block (a := ⟨b, off + j, none⟩) (Below.heap_setCell w p u b hp)).trans (h j q hj)
theorem reach_list {w w' : World} {pl : Pl} {k : Nat} {C : Option Addr} (hk : k < pl.length) (hI : IntsAt w' w'.heap.size C (natsI (reach pl k))) (hF : ∀ a, C = some a → w.heap.size ≤ a.block) :
    ∃ b off, C = some ⟨b, off, none⟩ ∧ w.heap.size ≤ b ∧ b < w'.heap.size ∧ ListAt w' b off (reach pl k) := by
  have hne : 0 < (reach pl k).length := by
    rcases Nat.eq_zero_or_pos (reach pl k).length with h | h
    · exact absurd (List.eq_nil_of_length_eq_zero h) (fun e => reach_nil.1 e (by omega))
    · exact h
  obtain ⟨b, off, e, hb, hc⟩ := hI (by simpa [natsI] using hne)
  refine ⟨b, off, e, hF _ e, hb, fun j q hj => ?_⟩
  have hlt := (List.getElem?_eq_some_iff.1 hj).1
  rw [hc j (by simpa [natsI] using hlt)]
  simp [intF, natsI, List.getD_eq_getElem?_getD, hj]
theorem take_snoc {l : List Nat} {j q : Nat} (h : l[j]? = some q) : l.take (j + 1) = l.take j ++ [q] := by rw [List.take_add_one, h]; rfl
theorem take_new {l : List Nat} (hn : l.Nodup) {j q : Nat} (h : l[j]? = some q) : q ∉ l.take j := by
  intro hm
  obtain ⟨i, hi, e⟩ := List.getElem_of_mem hm
  have hi2 : i < j := by simp at hi; omega
  obtain ⟨hj, e2⟩ := List.getElem?_eq_some_iff.1 h
  rw [List.getElem_take, ← e2] at e
  have := (List.getElem_inj hn).1 e
  omega
set_option maxRecDepth 100000 in
set_option maxHeartbeats 4000000 in
theorem begin_any (X : Bas) (pl : Pl) (S : List Int) (C : Option Addr) (cc : Nat) (w : World) {B : Nat} (hP : PlacesAt w B X.P pl) (hC : IntsAt w B C S) (hB : B ≤ w.heap.size) (hl : pl.length ≤ 1000000) (hs : S.length ≤ 9223372036854775807) (hS : ∀ x ∈ S, In64 x) :
    Calls Tryd.prog 22 #[.agg #[.string X.nm, .slice X.a1 X.l1 X.c1, .int .i64 X.cl, .slice X.P pl.length X.cP, .slice X.a4 X.l4 X.c4, .slice X.a5 X.l5 X.c5, .slice X.a6 X.l6 X.c6, .slice X.a7 X.l7 X.c7, .slice X.a8 X.l8 X.c8, .slice X.a9 X.l9 X.c9, .int .i64 X.er], .slice C S.length cc] w (BeginIs pl S w) := by
  obtain ⟨i0, hi, hz0, hz1, hz2⟩ := info_parts Tryd.infoInt
  have hmk := fun wx => run_make1 (P := Tryd.prog) 29 3 i0 (.int .i64 0) Tryd.underlying29 hi hz0 hz1 rfl pl.length pl.length (Nat.le_refl _) (by rw [hz2]; omega) (by omega) wx
  have K1 := Lib.hid (fun (p : Int) (wx : World) (hp : PlacesAt wx B X.P pl) (hb : B ≤ wx.heap.size) => reach_any X pl p wx hp hb hl)
  obtain ⟨m, hm⟩ : ∃ m, m = min pl.length S.length := ⟨_, rfl⟩
  have e1 : (if (S.length : Int) < (pl.length : Int) then (S.length : Int) else (pl.length : Int)) = (m : Int) := by split <;> omega
  have e3 : (if S.length < pl.length then (S.length : Int) else (pl.length : Int)) = (m : Int) := by split <;> omega
  have e2 : min (pl.length : Int) (S.length : Int) = (m : Int) := by omega
  have hmL : m ≤ pl.length ∧ m ≤ S.length := by omega
  have Hm := Lib.hid hm
  clear hm
  have HP := Lib.hid hP
  clear hP
  go_enter Tryd.func22, Tryd.ntmps22
  go_wp2_with fail
  clear hmk e1 e2 e3
  go_loopw [19] (fun i wr => ∃ k : Nat, k ≤ m ∧ i = .int .i64 k ∧ Arr wr (w.heap.size + 1) pl.length (thV pl S k) ∧ BoxB wr w.heap.size X pl ∧ Below w.heap.size w wr ∧ w.heap.size + 1 < wr.heap.size) (fun i _ => m - (intOf i).toNat)
  case atStart =>
    refine ⟨0, Nat.zero_le _, rfl, ?_, ?_, ((Below.refl _ _).alloc (Nat.le_refl _) _).alloc (by simp) _, by simp⟩
    · have m1 := Arr.made (w.alloc (.cells #[.string X.nm, .slice X.a1 X.l1 X.c1, .int .i64 X.cl, .slice X.P pl.length X.cP, .slice X.a4 X.l4 X.c4, .slice X.a5 X.l5 X.c5, .slice X.a6 X.l6 X.c6, .slice X.a7 X.l7 X.c7, .slice X.a8 X.l8 X.c8, .slice X.a9 X.l9 X.c9, .int .i64 X.er] 31)) (.int .i64 0) pl.length 3
      rw [World.size_alloc] at m1
      exact m1.congr (fun j _ => rfl)
    · exact (BoxB.new w X pl).below (B := w.heap.size + 1) ((Below.refl _ _).alloc (by simp) _) (by omega)
  case round =>
    obtain ⟨k, hk, rfl, hA, hX, hBw, hz⟩ := hrel
    obtain ⟨x0, x1, x2, x3, x4, x5, x6, x7, x8, x9, x10⟩ := hX.cells
    by_cases hlt : k < m
    · obtain ⟨x, hx⟩ : ∃ x, S[k]? = some x := ⟨_, List.getElem?_eq_getElem (by omega)⟩
      obtain ⟨b, off, rfl, hb, c0⟩ := hC.at_ hx
      have c0 := (hBw.cell (p := ⟨b, off + k, none⟩) (by show b < _; omega)).trans c0
      have hxE : Hid (supF S k = x) := by show _ = _; unfold supF; rw [List.getD_eq_getElem?_getD, hx]; rfl
      have hxI : In64 x := hS x (List.mem_of_getElem? hx)
      clear hx
      by_cases hx0 : x ≤ 0
      · have hA1 : Arr wr (w.heap.size + 1) pl.length (thV pl S (k + 1)) := by rw [thV_dry (by rw [hxE.out]; omega)]; exact hA
        clear hA
        go_wp2_with fail
        go_roundw
        case rel => exact ⟨k + 1, by omega, by go_num, hA1, hX, hBw, hz⟩
        case measure => simp [intOf]; omega
      · have K2 := Lib.hid (K1.out (k : Int) wr (HP.out.below (hBw.mono hB)) (by omega))
        have hpos : Hid (0 < supF S k) := Lib.hid (by rw [hxE.out]; omega)
        go_wp2_with (first | (go_at_call 23; ((with_reducible refine (K2.out).mono ?_); rintro e1 w1 ⟨C1, cc1, rfl, hI, hF, hb1⟩; obtain ⟨b2, o2, rfl, h2a, h2b, hL⟩ := reach_list (by omega) hI hF; have c0 := (hb1.cell (p := ⟨b, off + k, none⟩) (by show b < _; have := hBw.size; omega)).trans c0)) | fail)
        have hLl : (reach pl k).length ≤ pl.length := nodup_len _ _ (reach_nodup pl k) (fun q hq => reach_lt hq)
        clear hI hF
        have hX1 := hX.below hb1 (by omega)
        have hA1 : Arr w1 (w.heap.size + 1) pl.length (midV pl S k ((reach pl k).take 0)) := by rw [List.take_zero, midV_nil]; exact hA.below hb1 (by omega)
        have hB1 := hBw.trans (hb1.mono hBw.size)
        have hz1' : w.heap.size + 1 < w1.heap.size := by have := hb1.size; omega
        clear hA hX x0 x1 x2 x3 x4 x5 x6 x7 x8 x9 x10 hBw
        go_loopw [31] (fun i2 wi => ∃ j : Nat, j ≤ (reach pl k).length ∧ i2 = .int .i64 j ∧ Arr wi (w.heap.size + 1) pl.length (midV pl S k ((reach pl k).take j)) ∧ BoxB wi w.heap.size X pl ∧ Below w.heap.size w wi ∧ w.heap.size + 1 < wi.heap.size ∧ ListAt wi b2 o2 (reach pl k) ∧ wi.cell? ⟨b, off + k, none⟩ = some (.int .i64 x)) (fun i2 _ => (reach pl k).length - (intOf i2).toNat)
        case atStart => exact ⟨0, Nat.zero_le _, rfl, hA1, hX1, hB1, hz1', hL, c0⟩
        case round =>
          clear hA1 hX1 hB1 hz1' hL c0
          obtain ⟨j, hj, rfl, hA, hX, hBw, hz1, hL, c0⟩ := hrel
          by_cases hjl : j < (reach pl k).length
          · obtain ⟨q, hq⟩ : ∃ q, (reach pl k)[j]? = some q := ⟨_, List.getElem?_eq_getElem hjl⟩
            have hqn : q < pl.length := reach_lt (List.mem_of_getElem? hq)
            have hqt := take_new (reach_nodup pl k) hq
            have c1 := hL j q hq
            obtain ⟨a0, f0⟩ := hA q hqn
            have hm0 : midV pl S k ((reach pl k).take j) q = .int .i64 (thereN pl (supF S) k q) := by unfold midV; rw [midN_new hqt]
            rw [hm0] at a0
            have hAn : Arr (wr.setCell ⟨w.heap.size + 1, q, none⟩ (.int .i64 (satA (thereN pl (supF S) k q) x))) (w.heap.size + 1) pl.length (midV pl S k ((reach pl k).take (j + 1))) := by
              rw [take_snoc hq, ← hxE.out]
              exact (hA.set hqn _).congr (fun i _ => midV_snoc pl S k _ q i)
            have hV : In64 (thereN pl (supF S) k q) := by have := thereN_in (pl := pl) (sup := supF S) (fun p => supF_in hS p) k q; unfold In64; omega
            obtain ⟨V, hVE⟩ : ∃ V, V = thereN pl (supF S) k q := ⟨_, rfl⟩
            rw [← hVE] at hV a0 hAn
            have K3 := Lib.hid (fun wx => add_any V x wx hV hxI)
            clear hm0 hqt hq hVE
            go_upto_region 9 with fail
            refine Plan.wp_region_plan (fun w' => w'.cell? ⟨w.heap.size + 1, q, none⟩ = some (.int .i64 V) ∧ w'.cell? ⟨b, off + k, none⟩ = some (.int .i64 x) ∧ w'.frozen? ⟨w.heap.size + 1, q, none⟩ = false) 12 [(0, true), (1, true), (2, true), (3, true), (4, true), (5, true), (6, true), (7, true), (8, true), (9, true), (10, false), (11, true), (12, false)] (by kernel_rfl) (by kernel_rfl) ?_ ?_
            · refine ⟨?_, ?_, ?_⟩ <;> go_simp
            have hks : k < S.length := by omega
            (repeat (refine Plan.plan_read (v := ?_) rfl rfl ?_ ?_; rotate_left; (focus ((intro wS hSw; (try dsimp only at hSw); go_simp); try with_reducible rfl)); simp only [Act.put, List.setIfInBounds_toArray, List.set_cons_zero, List.set_cons_succ]))
            refine Plan.plan_write rfl (fun K hK => ?_)
            go_simp
            go_at_call 40
            (with_reducible refine (K3.out _).mono ?_)
            rintro e1 w2 ⟨rfl, rfl⟩
            go_simp
            refine hK.out _ _ ?_ ?_
            · refine ⟨?_, ?_, ?_⟩ <;> go_simp
            clear hK K
            try simp only [Act.put, List.setIfInBounds_toArray, List.set_cons_zero, List.set_cons_succ]
            (repeat (refine Plan.plan_read (v := ?_) rfl rfl ?_ ?_; rotate_left; (focus ((intro wS hSw; (try dsimp only at hSw); go_simp); try with_reducible rfl)); simp only [Act.put, List.setIfInBounds_toArray, List.set_cons_zero, List.set_cons_succ]))
            refine Plan.plan_last rfl (fun K hK => ?_)
            go_simp
            refine hK.out _ _ ?_
            clear hK K
            try simp only [Act.put, List.setIfInBounds_toArray, List.set_cons_zero, List.set_cons_succ]
            go_wp2_with fail
            go_roundw
            case rel => exact ⟨j + 1, by omega, by go_num, hAn, (hX.below (B := w.heap.size + 1) ((Below.refl _ _).setCell (p := ⟨w.heap.size + 1, q, none⟩) (Nat.le_refl _) _).drew (by omega)), (hBw.setCell (p := ⟨w.heap.size + 1, q, none⟩) (by simp) _).drew, by simpa using hz1, hL.far (p := ⟨w.heap.size + 1, q, none⟩) (by simp; omega) _, (World.cell?_setCell_other _ _ _ _ (fun e => by injection e with e1 _; omega)).trans c0⟩
            case measure => simp [intOf]; omega
          · have hje : j = (reach pl k).length := by omega
            subst hje
            rw [List.take_length, midV_all hpos.out] at hA
            go_wp2_with fail
            go_roundw
            case rel => exact ⟨k + 1, by omega, by go_num, hA, hX, hBw, hz1⟩
            case measure => simp [intOf]; omega
    · have hke : k = m := by omega
      subst hke
      rw [Hm.out] at hA
      go_wp2_with fail
      go_ret
      exact ⟨rfl, hA, hBw, hz⟩
end Go.Proofs.YtkbceeobnbbfbaaDoor

/- Walks of small functions: Got, short. -/
namespace Go.Proofs.YtkbceeobnbbfbaaDoor
open Go.RowKit CM
attribute [local go_sem] alloc_drewN setCell_drewN shape_drewN

theorem gotG_of {G : List (Int × Int)} {k : Nat} {x : Int × Int} (h : G[k]? = some x) : gotG G k = x.2 := by unfold gotG; rw [List.getD_eq_getElem?_getD, h]; rfl
/-- What a right has, as the reference asks for it. -/
def gotI (G : List (Int × Int)) (i : Int) : Int := if 0 ≤ i then gotG G i.toNat else 0
end Go.Proofs.YtkbceeobnbbfbaaDoor

