/- Plain facts for the walk of Day. -/
import Derived.Test.YtkbceeobnbbfbaaV6
import Derived.Test.YtkbceeobnbbfbaaMakeRow
set_option linter.unusedSimpArgs false
set_option linter.unusedVariables false
namespace Go.Proofs.Ytkbceeobnbbfbaa
open Go.RowKit CM

/-- What is left at a place ahead of the n-th right, and what that right gets. -/
def dayN (pl : Pl) (R : List Rt) (S : List Int) (n q : Nat) : Int := dayL (thereS pl (supF S) S.length) (rcR pl R) (rateR R) n q
def litN (pl : Pl) (R : List Rt) (S : List Int) (n : Nat) : Int := dayG (thereS pl (supF S) S.length) (rcR pl R) (rateR R) n
def dayLs (pl : Pl) (R : List Rt) (S : List Int) : List (Int × Int) := dayList pl R (supF S) S.length
section
variable {pl : Pl} {R : List Rt} {S : List Int}
theorem dayN_succ (n q : Nat) : dayN pl R S (n + 1) q = dayN pl R S n q - if q ∈ rcR pl R n then litN pl R S n else 0 := rfl
theorem thereS_in (hS : ∀ x ∈ S, In64 x) (q : Nat) : 0 ≤ thereS pl (supF S) S.length q ∧ thereS pl (supF S) S.length q ≤ 9223372036854775807 := thereN_in (fun p => supF_in hS p) _ q
theorem dayN_in (hS : ∀ x ∈ S, In64 x) (n q : Nat) : 0 ≤ dayN pl R S n q ∧ dayN pl R S n q ≤ 9223372036854775807 := by
  have h0 := fun q => (thereS_in (pl := pl) hS q).1
  refine ⟨dayL_nn h0 n q, ?_⟩
  have := dayL_mono (there := thereS pl (supF S) S.length) (rc := rcR pl R) (rate := rateR R) 0 n q
  rw [Nat.zero_add] at this
  have h1 : dayL (thereS pl (supF S) S.length) (rcR pl R) (rateR R) 0 q = thereS pl (supF S) S.length q := rfl
  have := (thereS_in (pl := pl) hS q).2
  unfold dayN; omega
theorem litN_le (hS : ∀ x ∈ S, In64 x) {n q : Nat} (hq : q ∈ rcR pl R n) : 0 ≤ litN pl R S n ∧ litN pl R S n ≤ dayN pl R S n q :=
  ⟨dayG_nn n, dayG_left (fun q => (thereS_in hS q).1) hq⟩
theorem litN_nil {n : Nat} (h : rcR pl R n = []) : litN pl R S n = 0 := by unfold litN dayG lit; rw [if_pos (by simp [h])]
theorem leastI_map (r : Int) (l : List Nat) (f : Nat → Int) : leastI r (l.map f) = leastL r l f := by
  unfold leastI leastL
  rw [List.foldl_map]
  congr 1
  funext a q
  split <;> omega
theorem litN_max {n : Nat} (h : rcR pl R n ≠ []) : litN pl R S n = max 0 (leastI (rateR R n) ((rcR pl R n).map (dayN pl R S n))) := by
  rw [leastI_map]; unfold litN dayG lit; rw [if_neg (by simpa using h)]; rfl
theorem dayLs_take (n : Nat) (hn : n < R.length) : (dayLs pl R S).take (n + 1) = (dayLs pl R S).take n ++ [((rtN R n).id, litN pl R S n)] := by
  rw [List.take_add_one]
  congr 1
  unfold dayLs dayList
  simp [hn]; rfl
theorem dayLs_len : (dayLs pl R S).length = R.length := dayList_len
theorem rcR_len (n : Nat) : (rcR pl R n).length ≤ pl.length := nodup_len _ _ (reach_nodup _ _) (fun _ h => reach_lt h)
end
def dayV (pl : Pl) (R : List Rt) (S : List Int) (k : Nat) : Nat → Value := fun q => .int .i64 (dayN pl R S k q)
/-- The first places have given what the right gets. -/
def dayM (pl : Pl) (R : List Rt) (S : List Int) (k : Nat) (l : List Nat) : Nat → Value := fun q => .int .i64 (if q ∈ l then dayN pl R S k q - litN pl R S k else dayN pl R S k q)
theorem dayM_nil (pl : Pl) (R : List Rt) (S : List Int) (k : Nat) : dayM pl R S k [] = dayV pl R S k := by
  funext q; unfold dayM dayV; rw [if_neg (by simp)]
theorem dayM_all (pl : Pl) (R : List Rt) (S : List Int) (k : Nat) : dayM pl R S k (rcR pl R k) = dayV pl R S (k + 1) := by
  funext q; unfold dayM dayV; rw [dayN_succ]
  by_cases h : q ∈ rcR pl R k
  · rw [if_pos h, if_pos h]
  · rw [if_neg h, if_neg h, Int.sub_zero]
theorem dayM_snoc (pl : Pl) (R : List Rt) (S : List Int) (k : Nat) (l : List Nat) (q j : Nat) : updF (dayM pl R S k l) q (.int .i64 (dayN pl R S k q - litN pl R S k)) j = dayM pl R S k (l ++ [q]) j := by
  unfold updF dayM
  by_cases h : j = q
  · subst h; simp
  · rw [if_neg h]; simp [h]
theorem dayM_new {pl : Pl} {R : List Rt} {S : List Int} {k : Nat} {l : List Nat} {q : Nat} (h : q ∉ l) : dayM pl R S k l q = .int .i64 (dayN pl R S k q) := by unfold dayM; rw [if_neg h]
theorem list_of {w w' : World} {l : List Nat} {C : Option Addr} (hne : l ≠ []) (hI : IntsAt w' w'.heap.size C (natsI l)) (hF : ∀ a, C = some a → w.heap.size ≤ a.block) :
    ∃ b off, C = some ⟨b, off, none⟩ ∧ w.heap.size ≤ b ∧ b < w'.heap.size ∧ ListAt w' b off l := by
  have hne : 0 < l.length := by
    rcases Nat.eq_zero_or_pos l.length with h | h
    · exact absurd (List.eq_nil_of_length_eq_zero h) hne
    · exact h
  obtain ⟨b, off, e, hb, hc⟩ := hI (by simpa [natsI] using hne)
  refine ⟨b, off, e, hF _ e, hb, fun j q hj => ?_⟩
  have hlt := (List.getElem?_eq_some_iff.1 hj).1
  rw [hc j (by simpa [natsI] using hlt)]
  simp [intF, natsI, List.getD_eq_getElem?_getD, hj]
theorem ListAt.below {w w' : World} {B b off : Nat} {l : List Nat} (h : ListAt w b off l) (hb : Below B w w') (hlt : b < B) : ListAt w' b off l := fun j q hj => (hb.cell (p := ⟨b, off + j, none⟩) hlt).trans (h j q hj)
theorem Try.infoGrant : (Try.prog.info? 53).map (fun i => (i.zero, i.size, i.bytes)) = some (some (.agg #[.int .i64 0, .int .i64 0]), 2, 16) := by kernel_rfl
theorem cell_two_at {w : World} {b : Nat} (hb : w.heap.size = b) (e : Nat) (x y : Value) : ∀ j u, [x, y][j]? = some u → (w.alloc (.cells #[x, y] e)).cell? ((⟨b, 0, none⟩ : Addr).add j) = some u := by
  subst hb
  intro j u hj
  rw [Addr.add_lit, Nat.zero_add, World.cell?_alloc_at _ _ _ _ rfl]
  simpa using hj
end Go.Proofs.Ytkbceeobnbbfbaa
