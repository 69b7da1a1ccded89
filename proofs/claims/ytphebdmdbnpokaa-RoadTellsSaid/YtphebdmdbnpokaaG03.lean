/- Joined of: FX6 FLMath FY4. -/
import Derived.Test.YtphebdmdbnpokaaG02
import Derived.Test.YtphebdmdbnpokaaFY3
/- The examples of the statements' head. -/
set_option linter.unusedSimpArgs false
set_option linter.unusedVariables false
namespace Go.Proofs.Ytphebdmdbnpokaa.FL
open Go.RowKit FM
attribute [local go_sem] alloc_drewN setCell_drewN shape_drewN

def exA : List Arc := [(0, 1, 2), (0, 2, 2), (1, 3, 1), (2, 3, 4)]
def exR : Int → Bool := fun u => decide (u = 0 ∨ u = 1)
theorem exMax : MaxOf 4 exA 0 3 [1, 2, 1, 2] 3 exR := by
  refine ⟨by simp [feas, exA], fun v h1 h2 => ?_, by simp [exc, exA, ind], by simp [exR], by simp [exR], by simp [closed, exA, exR], fun S h1 h2 u hu => ?_⟩
  · have a1 : ((0 : Int) == v) = false := by simp; omega
    have a2 : ((3 : Int) == v) = false := by simp; omega
    by_cases b1 : v = 1
    · subst b1; simp [exc, exA, ind]
    · by_cases b2 : v = 2
      · subst b2; simp [exc, exA, ind]
      · have c1 : ((1 : Int) == v) = false := by simp; omega
        have c2 : ((2 : Int) == v) = false := by simp; omega
        simp [exc, exA, ind, a1, a2, c1, c2]
  · have h3 := (h2.1 h1 (by decide) : S 1 = true)
    have : u = 0 ∨ u = 1 := of_decide_eq_true hu
    rcases this with rfl | rfl
    · exact h1
    · exact h3
theorem exMax0 : MaxOf 2 [] 0 1 [] 0 (fun u => decide (u = 0)) := by
  refine ⟨trivial, fun v _ _ => rfl, rfl, by simp, by simp, trivial, fun S h1 _ u hu => ?_⟩
  have : u = 0 := of_decide_eq_true hu
  rw [this]; exact h1
theorem exValid : Valid 4 exA 0 3 := by
  refine ⟨by omega, by omega, by simp [exA], fun k a hk => ?_, by omega, by omega, by omega, by omega, by omega⟩
  have hl := (List.getElem?_eq_some_iff.1 hk).1
  have : k = 0 ∨ k = 1 ∨ k = 2 ∨ k = 3 := by simp [exA] at hl; omega
  rcases this with rfl | rfl | rfl | rfl <;> (simp [exA] at hk; subst hk; simp [good])
theorem exIn : inN 4 exA := (valid_facts (n := 4) exValid).1
theorem exSide : sideL 4 exR = [0, 1] := by decide
theorem exMem : memB [0, 1] = exR := by
  funext u; unfold memB exR; simp
theorem exOk {f : List Int} {v : Int} {R : Int → Bool} (h : MaxOf 4 exA 0 3 f v R) : CheckOk 4 exA 0 3 f [0, 1] := by
  obtain ⟨rfl, rfl⟩ := h.same exIn (by omega) (by omega) exMax
  refine ⟨exValid, feas_len h.feas, ⟨fun k hk => ?_, by simp, by simp⟩, h.feas, fun v _ h1 h2 => h.keeps v h1 h2, ?_⟩
  · have : k = 0 ∨ k = 1 := by simp at hk; omega
    rcases this with rfl | rfl <;> simp [okAt]
  · rw [exMem, h.value]; decide
theorem exNo1 {f : List Int} {v : Int} {R : Int → Bool} (h : MaxOf 4 exA 0 3 f v R) : ¬ CheckOk 4 exA 0 3 f [0] := fun g => by
  obtain ⟨rfl, rfl⟩ := h.same exIn (by omega) (by omega) exMax
  have h1 := g.2.2.2.2.2
  rw [h.value, show cut exA (memB [0]) = 4 by decide] at h1
  omega
theorem exNo2 : ¬ CheckOk 4 exA 0 3 [0, 0, 0, 0] [0, 1] := fun g => by
  have h1 := g.2.2.2.2.2
  rw [exMem, show cut exA exR = 3 by decide, show exc exA [0, 0, 0, 0] 0 = 0 by decide] at h1
  omega
theorem ArcsAt.step {w w' : World} {C : Option Addr} {A : List Arc} (h : ArcsAt w w.heap.size C A) (hb : Below w.heap.size w w') : ArcsAt w' w'.heap.size C A := (h.below hb).more hb.size
theorem ints_step {w w' : World} {S : Option Addr} {l : List Int} (h : IntsAt w w.heap.size S l) (hb : Below w.heap.size w w') : IntsAt w' w'.heap.size S l := (CellsAt.below h hb).more hb.size
theorem below_new (w : World) (o : Obj) : Below w.heap.size w (w.alloc o) := (Below.refl _ _).alloc (Nat.le_refl _) o
theorem arcs_ex (w : World) : ArcsAt (w.alloc (.cells #[.int .i64 0, .int .i64 1, .int .i64 2, .int .i64 0, .int .i64 2, .int .i64 2, .int .i64 1, .int .i64 3, .int .i64 1, .int .i64 2, .int .i64 3, .int .i64 4] 66)) (w.heap.size + 1) (some ⟨w.heap.size, 0, none⟩) exA := by
  intro _
  refine ⟨_, 0, rfl, by omega, fun j hj => ?_⟩
  have hj : j < 12 := hj
  rw [new_cell rfl, Nat.zero_add]
  have : j = 0 ∨ j = 1 ∨ j = 2 ∨ j = 3 ∨ j = 4 ∨ j = 5 ∨ j = 6 ∨ j = 7 ∨ j = 8 ∨ j = 9 ∨ j = 10 ∨ j = 11 := by omega
  rcases this with rfl | rfl | rfl | rfl | rfl | rfl | rfl | rfl | rfl | rfl | rfl | rfl <;> rfl
def SmallSaid (w : World) (e : Ending) (w' : World) : Prop := e = .returned (.bool true) ∧ Below w.heap.size w w'
theorem ints_lit (w : World) (l : List Int) (t : TypeId) (cs : Array Value) (h : cs = (l.map (Value.int .i64)).toArray) : IntsAt (w.alloc (.cells cs t)) (w.alloc (.cells cs t)).heap.size (some ⟨w.heap.size, 0, none⟩) l := by
  subst h
  intro _
  refine ⟨_, 0, rfl, by simp, fun j hj => ?_⟩
  rw [new_cell rfl, Nat.zero_add]
  simp [intF, List.getD_eq_getElem?_getD, hj]

end Go.Proofs.Ytphebdmdbnpokaa.FL

/- Plain laws for the statements: a side as a list, and what a check that accepts gives. -/
namespace Go.Proofs.Ytphebdmdbnpokaa.FL
open FM

theorem mem_sideL {n : Nat} {R : Int → Bool} {v : Int} : v ∈ sideL n R ↔ 0 ≤ v ∧ v < n ∧ R v = true := by
  unfold sideL
  simp only [List.mem_map, List.mem_filter, List.mem_range]
  constructor
  · rintro ⟨u, ⟨h1, h2⟩, rfl⟩
    exact ⟨by omega, by omega, h2⟩
  · rintro ⟨h0, h1, h2⟩
    obtain ⟨u, rfl⟩ := Int.eq_ofNat_of_zero_le h0
    exact ⟨u, ⟨by omega, h2⟩, rfl⟩
theorem sorted_get {l : List Int} (h : l.Pairwise (· < ·)) {k : Nat} (hk : k < l.length) (h0 : 0 < k) : l.getD (k - 1) 0 < l.getD k 0 := by
  have := List.pairwise_iff_getElem.1 h (k - 1) k (by omega) hk (by omega)
  simpa [List.getD_eq_getElem?_getD, hk, show k - 1 < l.length by omega] using this
theorem sideL_sorted (n : Nat) (R : Int → Bool) : (sideL n R).Pairwise (· < ·) := by
  unfold sideL
  rw [List.pairwise_map]
  refine List.Pairwise.filter _ ?_
  exact (List.pairwise_lt_range (n := n)).imp (fun h => by omega)
theorem asc_sideL (n : Nat) (R : Int → Bool) : asc n (sideL n R) := fun k hk => by
  have hm : (sideL n R).getD k 0 ∈ sideL n R := by
    rw [List.getD_eq_getElem?_getD, List.getElem?_eq_getElem hk]; exact List.getElem_mem hk
  obtain ⟨h0, h1, h2⟩ := mem_sideL.1 hm
  exact ⟨h0, h1, fun h => sorted_get (sideL_sorted n R) hk h⟩
theorem memB_sideL {n : Nat} {R : Int → Bool} {v : Int} (h0 : 0 ≤ v) (h1 : v < n) : memB (sideL n R) v = R v := by
  unfold memB
  cases h : R v with
  | true => exact decide_eq_true (mem_sideL.2 ⟨h0, h1, h⟩)
  | false => exact decide_eq_false (fun g => by rw [(mem_sideL.1 g).2.2] at h; cases h)
theorem cut_congr {n : Nat} {S T : Int → Bool} : ∀ {A : List Arc}, inN n A → (∀ v : Int, 0 ≤ v → v < n → S v = T v) → cut A S = cut A T
  | [], _, _ => rfl
  | a :: A, hA, h => by
    obtain ⟨h0, h1, h2, h3⟩ := hA a List.mem_cons_self
    have ih := cut_congr (A := A) (fun b hb => hA b (List.mem_cons_of_mem _ hb)) h
    simp only [cut, ih, h _ h0 h1, h _ h2 h3]
theorem exc_out {n : Nat} {v : Int} (hv : ¬ (0 ≤ v ∧ v < n)) : ∀ {A : List Arc} {f : List Int}, inN n A → exc A f v = 0
  | [], f, _ => by simp [exc]
  | a :: A, [], _ => by simp [exc]
  | a :: A, x :: f, hA => by
    obtain ⟨h0, h1, h2, h3⟩ := hA a List.mem_cons_self
    have ih := exc_out hv (A := A) (f := f) (fun b hb => hA b (List.mem_cons_of_mem _ hb))
    have e1 : (a.1 == v) = false := by simp; omega
    have e2 : (a.2.1 == v) = false := by simp; omega
    simp [exc, ih, e1, e2, ind]
theorem keeps_of {n : Nat} {A : List Arc} {f : List Int} {s t : Int} (hA : inN n A) (h : ∀ v : Nat, (v : Int) < n → (v : Int) ≠ s → (v : Int) ≠ t → exc A f v = 0) : keeps A f s t := fun v h1 h2 => by
  by_cases hv : 0 ≤ v ∧ v < n
  · obtain ⟨u, rfl⟩ := Int.eq_ofNat_of_zero_le hv.1
    exact h u hv.2 h1 h2
  · exact exc_out hv hA
theorem max_check {n : Nat} {A : List Arc} {s t : Int} {f : List Int} {v : Int} {R : Int → Bool} (hV : Valid n A s t) (h : MaxOf n A s t f v R) : CheckOk n A s t f (sideL n R) ∧ cut A (memB (sideL n R)) = v := by
  obtain ⟨hA, hcap⟩ := valid_facts hV
  obtain ⟨v1, v2, v3, _, v4, v5, v6, v7, v8⟩ := id hV
  have hc : cut A (memB (sideL n R)) = v := by
    rw [cut_congr hA (fun u h0 h1 => memB_sideL h0 h1)]; exact h.cut hA v4 v5
  refine ⟨⟨hV, feas_len h.feas, ⟨asc_sideL n R, mem_sideL.2 ⟨v4, v5, h.src⟩, fun g => ?_⟩, h.feas, fun u _ h1 h2 => h.keeps u h1 h2, by rw [hc]; exact h.value⟩, hc⟩
  have := (mem_sideL.1 g).2.2
  rw [h.snk] at this; cases this
theorem ok_extreme {n : Nat} {A : List Arc} {s t : Int} {f g side : List Int} {v : Int} {R : Int → Bool} (h : MaxOf n A s t f v R) (k : CheckOk n A s t g side) : exc A g s = v ∧ cut A (memB side) = v := by
  obtain ⟨hV, k1, k2, k3, k4, k5⟩ := k
  obtain ⟨hA, hcap⟩ := valid_facts hV
  obtain ⟨v1, v2, v3, _, v4, v5, v6, v7, v8⟩ := hV
  have hk := keeps_of hA k4
  have h1 := h.flow_le hA v4 v5 k3 hk
  have h2 := h.le_cut hA v4 v5 (S := memB side) (by exact decide_eq_true k2.2.1) (by exact decide_eq_false k2.2.2)
  omega
end Go.Proofs.Ytphebdmdbnpokaa.FL

/- The walks of the reference's before and augment. -/
namespace Go.Proofs.Ytphebdmdbnpokaa.FL
open Go.RowKit FM
attribute [local go_sem] alloc_drewN setCell_drewN shape_drewN

def BeforeSaid (A : List Arc) (k : Nat) (w : World) (e : Ending) (w' : World) : Prop := e = .returned (.int .i64 (fr A k)) ∧ Below w.heap.size w w'
theorem before_any (C : Option Addr) (cc : Nat) (A : List Arc) (g n c v k : Nat) (by_ : Int → Int) (w : World) {B : Nat} (hC : ArcsAt w B C A) (hG : Arr w g n (byV by_)) (hv : v < n) (hk : by_ v = k) (hkl : k < 2 * A.length) (hm : A.length ≤ 4096) (hn : n ≤ 256) :
    Calls Try.prog 53 #[.slice C A.length cc, .slice (some ⟨g, 0, none⟩) n c, .int .i64 v] w (BeforeSaid A k w) := by
  obtain ⟨i, hi⟩ : ∃ i, i = k / 2 := ⟨_, rfl⟩
  have hil : i < A.length := by omega
  obtain ⟨b, off, x, y, z, rfl, hbb, ha, c0, c1, c2⟩ := hC.at_ hil
  obtain ⟨f1, f2, f3, f4⟩ := fr_two ha.out
  have hmv := (hG v hv).1
  simp only [byV, hk] at hmv
  have hgl := World.block_lt_of_cell? w _ hmv
  have hg7 : g < w.heap.size := hgl
  rcases Nat.mod_two_eq_zero_or_one k with p | p
  · obtain rfl : k = 2 * i := by omega
    have Hf := Lib.hid f1
    rw [show ((2 * i : Nat) : Int) = 2 * (i : Int) by omega] at hmv
    have hmva := (old_cell (.cells #[.int .i64 x, .int .i64 y, .int .i64 z] 66) hg7).trans hmv
    have e1 : 2 * (i : Int) / 2 = (i : Int) := by omega
    have e2 : 2 * (i : Int) % 2 = 0 := by omega
    have e3 : 0 ≤ 2 * (i : Int) := by omega
    have e4 : (i : Int) < (A.length : Int) := by omega
    clear f1 f2 f3 f4 p hi hk hkl
    go_enter Try.func53, Try.ntmps53
    go_wp2_with fail
    go_ret
    exact ⟨by rw [Hf.out]; rfl, below_new _ _⟩
  · obtain rfl : k = 2 * i + 1 := by omega
    have Hf := Lib.hid f3
    rw [show ((2 * i + 1 : Nat) : Int) = 2 * (i : Int) + 1 by omega] at hmv
    have hmva := (old_cell (.cells #[.int .i64 x, .int .i64 y, .int .i64 z] 66) hg7).trans hmv
    have e1 : (2 * (i : Int) + 1) / 2 = (i : Int) := by omega
    have e2 : (2 * (i : Int) + 1) % 2 = 1 := by omega
    have e3 : 0 ≤ 2 * (i : Int) + 1 := by omega
    have e4 : (i : Int) < (A.length : Int) := by omega
    clear f1 f2 f3 f4 p hi hk hkl
    go_enter Try.func53, Try.ntmps53
    go_wp2_with fail
    go_ret
    exact ⟨by rw [Hf.out]; rfl, below_new _ _⟩
end Go.Proofs.Ytphebdmdbnpokaa.FL

