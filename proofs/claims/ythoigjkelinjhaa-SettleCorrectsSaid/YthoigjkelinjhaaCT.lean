/- The laws of call, as plain facts of what its functions compute. -/
import Derived.Test.YthoigjkelinjhaaCS
set_option linter.unusedSimpArgs false
set_option linter.unusedVariables false
namespace Go.Proofs.Ythoigjkelinjhaa.CM
open Go.RowKit

theorem leftE_congr {there : Nat → Int} {rc : Nat → List Nat} {g h : Nat → Int} : ∀ (n : Nat), (∀ j, j < n → g j = h j) → ∀ q, leftE there rc g n q = leftE there rc h n q
  | 0, _, _ => rfl
  | n + 1, e, q => by rw [leftE_succ, leftE_succ, leftE_congr n (fun j hj => e j (by omega)) q, e n (by omega)]
/-- Supplies of at most MaxVol together, not too many rights. -/
structure Modest (pl : Pl) (R : List Rt) (sup : Nat → Int) (ns : Nat) : Prop where
  sum : posSum sup (min pl.length ns) ≤ 1125899906842624
  few : R.length ≤ 1000
section
variable {pl : Pl} {R : List Rt} {sup : Nat → Int} {ns : Nat} {G : List (Int × Int)}
theorem Modest.there (h : Modest pl R sup ns) (q : Nat) : 0 ≤ thereS pl sup ns q ∧ thereS pl sup ns q ≤ 1125899906842624 := by
  have := thereN_le (pl := pl) (sup := sup) (min pl.length ns) q h.sum
  have := h.sum
  unfold thereS
  omega
theorem Modest.day (h : Modest pl R sup ns) (j : Nat) : 0 ≤ dayG (thereS pl sup ns) (rcR pl R) (rateR R) j ∧ dayG (thereS pl sup ns) (rcR pl R) (rateR R) j ≤ 1125899906842624 := by
  refine ⟨dayG_nn j, ?_⟩
  by_cases hne : rcR pl R j = []
  · unfold dayG lit
    rw [if_pos (by simp [hne])]; omega
  · obtain ⟨q, l, e⟩ := List.exists_cons_of_ne_nil hne
    have hq : q ∈ rcR pl R j := by rw [e]; exact List.mem_cons_self ..
    have h1 := dayG_left (rate := rateR R) (fun p => (h.there p).1) hq
    have h2 := dayL_mono (there := thereS pl sup ns) (rc := rcR pl R) (rate := rateR R) 0 j q
    rw [Nat.zero_add] at h2
    have h3 : dayL (thereS pl sup ns) (rcR pl R) (rateR R) 0 q = thereS pl sup ns q := rfl
    have := (h.there q).2
    omega
theorem Modest.left (h : Modest pl R sup ns) (q : Nat) : leftW pl R sup ns (dayList pl R sup ns) R.length q = dayL (thereS pl sup ns) (rcR pl R) (rateR R) R.length q := by
  rw [(leftW_exact h.sum dayList_len (fun j hj => by rw [dayList_got hj]; exact h.day j) h.few R.length q (Nat.le_refl _)).1, ← leftE_day]
  exact leftE_congr R.length (fun j hj => dayList_got hj) q
theorem shortF_rc {i : Nat} : shortF pl R G i = true ↔ i < G.length ∧ gotG G i < rateR R i ∧ rcR pl R i ≠ [] := by
  unfold shortF
  rw [Bool.and_eq_true, Bool.and_eq_true, decide_eq_true_eq, decide_eq_true_eq]
  have := rcR_nil (pl := pl) (R := R) (i := i)
  cases hq : isPl pl (rtN R i).place
  · simp only [hq, iff_true] at this
    simp [this]
  · simp only [hq, Bool.true_eq_false, iff_false] at this
    simp [this]
/-- In the day's grants each short right has a stop. -/
theorem Modest.stop (h : Modest pl R sup ns) {i : Nat} (hi : i < R.length) (hs : shortF pl R (dayList pl R sup ns) i = true) : 0 ≤ stopF pl R sup ns (dayList pl R sup ns) i := by
  obtain ⟨_, h1, h2⟩ := shortF_rc.1 hs
  rw [dayList_got hi] at h1
  obtain ⟨q, ⟨hq, hz, hd⟩, _⟩ := day_stop (fun p => (h.there p).1) hi h1 h2
  refine stopF_some.1.2 ⟨q, hq, ?_, (lastW_le _).2 fun j j1 j2 j3 _ => ?_⟩
  · rw [h.left, ← leftE_day]; exact hz
  · rw [dayList_got j2]; exact hd j j1 j2 j3
theorem mem_excL {i j : Nat} (hi : i < R.length) (hs : shortF pl R G i = true) (h0 : 0 ≤ stopF pl R sup ns G i) (hj : j ∈ wetF G R.length (i + 1)) : ((rtN R i).id, (rtN R j).id) ∈ excL pl R sup ns G := by
  unfold excL
  rw [List.mem_flatMap]
  refine ⟨i, List.mem_range.2 hi, ?_⟩
  rw [if_pos (by rw [hs, decide_eq_true h0]; rfl)]
  exact List.mem_map.2 ⟨j, hj, rfl⟩
/-- THE DAY'S GRANTS ARE ACCEPTED with all excuses, and whatever more. -/
theorem Modest.accepted (h : Modest pl R sup ns) {x : List (Int × Int)} (hx : ∀ e ∈ excL pl R sup ns (dayList pl R sup ns), e ∈ x) : checkF pl R sup ns (dayList pl R sup ns) x = true := by
  unfold checkF
  rw [Bool.and_eq_true, Bool.and_eq_true, Bool.and_eq_true]
  refine ⟨decide_eq_true dayList_len, ?_, ?_, ?_⟩
  · rw [List.all_eq_true]
    intro i hi
    have hi := List.mem_range.1 hi
    unfold lawfulF
    have h1 := h.day i
    have h2 := dayG_le (there := thereS pl sup ns) (rc := rcR pl R) (rate := rateR R) i
    rw [dayList_got hi]
    have e : ((dayList pl R sup ns).getD i (0, 0)).1 = (rtN R i).id := by simp [dayList, List.getD_eq_getElem?_getD, hi]
    rw [decide_eq_true e, decide_eq_true h1.1, decide_eq_true h1.2, decide_eq_true h2]
    simp only [Bool.true_and]
    cases hq : isPl pl (rtN R i).place
    · have := rcR_nil.2 hq
      unfold dayG lit
      rw [if_pos (by simp [this])]; rfl
    · simp
  · rw [List.all_eq_true]
    intro q _
    rw [h.left]
    exact decide_eq_true (dayL_nn (fun p => (h.there p).1) _ q)
  · rw [List.all_eq_true]
    intro i hi
    have hi := List.mem_range.1 hi
    cases hs : shortF pl R (dayList pl R sup ns) i
    · rfl
    · have h0 := h.stop hi hs
      rw [decide_eq_true h0]
      simp only [Bool.not_true, Bool.false_or, Bool.true_and]
      rw [List.all_eq_true]
      intro j hj
      exact decide_eq_true (hx _ (mem_excL hi hs h0 hj))
/-- ONLY THE DAY'S GRANTS ARE ACCEPTED. -/
theorem Modest.only (h : Modest pl R sup ns) {x : List (Int × Int)} (hc : checkF pl R sup ns G x = true) : G = dayList pl R sup ns := by
  unfold checkF at hc
  rw [Bool.and_eq_true, Bool.and_eq_true, Bool.and_eq_true, decide_eq_true_eq, List.all_eq_true, List.all_eq_true, List.all_eq_true] at hc
  obtain ⟨hl, h1, h2, h3⟩ := hc
  have law : ∀ i, i < R.length → (G.getD i (0, 0)).1 = (rtN R i).id ∧ 0 ≤ gotG G i ∧ gotG G i ≤ 1125899906842624 ∧ gotG G i ≤ max 0 (rateR R i) ∧ (rcR pl R i = [] → gotG G i = 0) := by
    intro i hi
    have := h1 i (List.mem_range.2 hi)
    unfold lawfulF at this
    simp only [Bool.and_eq_true, Bool.or_eq_true, decide_eq_true_eq] at this
    refine ⟨this.1, this.2.1, this.2.2.1, this.2.2.2.1, fun hn => ?_⟩
    have hq := rcR_nil.1 hn
    rcases this.2.2.2.2 with g | g
    · exact g
    · rw [hq] at g; cases g
  have ex := leftW_exact h.sum hl (fun j hj => ⟨(law j hj).2.1, (law j hj).2.2.1⟩) h.few R.length
  have hout : ∀ j, R.length ≤ j → gotG G j = 0 := fun j hj => by
    unfold gotG
    rw [List.getD_eq_getElem?_getD, List.getElem?_eq_none (by omega)]; rfl
  have key := day_only (there := thereS pl sup ns) (rc := rcR pl R) (rate := rateR R) (got := gotG G) (m := R.length) (fun p => (h.there p).1)
    (fun j => by
      by_cases g : j < R.length
      · exact (law j g).2.1
      · rw [hout j (by omega)]; omega)
    (fun j hj => (law j hj).2.2.2.1) (fun j hj => (law j hj).2.2.2.2)
    (fun j hj q hq => by
      have := h2 q (List.mem_range.2 (rcR_lt hq))
      rw [← (ex q (Nat.le_refl _)).1]
      simpa using this)
    (fun i hi g1 g2 => by
      have hs : shortF pl R G i = true := shortF_rc.2 ⟨by omega, g1, g2⟩
      have := h3 i (List.mem_range.2 hi)
      rw [hs] at this
      simp only [Bool.not_true, Bool.false_or, Bool.and_eq_true, decide_eq_true_eq] at this
      obtain ⟨q, hq, hz, hla⟩ := stopF_some.1.1 this.1
      exact ⟨q, hq, by rw [← (ex q (Nat.le_refl _)).1]; exact hz, fun j j1 j2 j3 => (lastW_le _).1 hla j j1 j2 j3 (by omega)⟩)
  apply List.ext_getElem
  · rw [dayList_len]; exact hl
  · intro i h4 h5
    have hi : i < R.length := by omega
    have a1 := (law i hi).1
    have a2 := key i hi
    rw [List.getD_eq_getElem?_getD, List.getElem?_eq_getElem h4] at a1
    unfold gotG at a2
    rw [List.getD_eq_getElem?_getD, List.getElem?_eq_getElem h4] at a2
    simp only [Option.getD_some] at a1 a2
    simp only [dayList, List.getElem_map, List.getElem_range]
    exact Prod.ext a1 a2
/-- Different Ids make different excuses. -/
theorem excL_nodup (hid : ∀ i j, i < R.length → j < R.length → (rtN R i).id = (rtN R j).id → i = j) : (excL pl R sup ns G).Pairwise (· ≠ ·) := by
  unfold excL
  rw [List.pairwise_flatMap]
  have wl : ∀ {i j : Nat}, j ∈ wetF G R.length i → j < R.length := fun hj => List.mem_range.1 (List.mem_filter.1 hj).1
  refine ⟨fun i _ => ?_, ?_⟩
  · split
    · rw [List.pairwise_map]
      have h1 : (wetF G R.length (i + 1)).Pairwise (· < ·) := List.Pairwise.filter _ List.pairwise_lt_range
      refine List.Pairwise.imp_of_mem ?_ h1
      intro a b ha hb hab e
      have := hid a b (wl ha) (wl hb) (congrArg Prod.snd e)
      omega
    · exact List.Pairwise.nil
  · refine List.Pairwise.imp_of_mem ?_ List.pairwise_lt_range
    intro a b ha hb hab x hx y hy e
    split at hx
    · split at hy
      · obtain ⟨c, _, rfl⟩ := List.mem_map.1 hx
        obtain ⟨d, _, rfl⟩ := List.mem_map.1 hy
        have := hid a b (List.mem_range.1 ha) (List.mem_range.1 hb) (congrArg Prod.fst e)
        omega
      · cases hy
    · cases hx
theorem rest_not {α : Type} {l : List α} (h : l.Pairwise (· ≠ ·)) {k : Nat} {x : α} (hk : l[k]? = some x) : x ∉ l.take k ++ l.drop (k + 1) := by
  have hlt := (List.getElem?_eq_some_iff.1 hk).1
  have hx : l[k] = x := (List.getElem?_eq_some_iff.1 hk).2
  intro hm
  rw [List.pairwise_iff_getElem] at h
  rcases List.mem_append.1 hm with q | q
  · obtain ⟨j, hj, e⟩ := List.getElem_of_mem q
    rw [List.length_take] at hj
    rw [List.getElem_take] at e
    exact h j k (by omega) hlt (by omega) (e.trans hx.symm)
  · obtain ⟨j, hj, e⟩ := List.getElem_of_mem q
    rw [List.length_drop] at hj
    rw [List.getElem_drop] at e
    exact h k (k + 1 + j) hlt (by omega) (by omega) (hx.trans e.symm)
/-- NO EXCUSE MAY BE MISSING. -/
theorem needs (hid : ∀ i j, i < R.length → j < R.length → (rtN R i).id = (rtN R j).id → i = j) {k : Nat} (hk : k < (excL pl R sup ns G).length) :
    checkF pl R sup ns G ((excL pl R sup ns G).take k ++ (excL pl R sup ns G).drop (k + 1)) = false := by
  have hx := rest_not (excL_nodup (pl := pl) (sup := sup) (ns := ns) (G := G) hid) (List.getElem?_eq_getElem hk)
  have hm := List.getElem_mem hk
  generalize hrest : (excL pl R sup ns G).take k ++ (excL pl R sup ns G).drop (k + 1) = rest at hx ⊢
  generalize (excL pl R sup ns G)[k] = e at hx hm
  unfold excL at hm
  obtain ⟨i, hi, h2⟩ := List.mem_flatMap.1 hm
  have hi := List.mem_range.1 hi
  split at h2
  · rename_i g
    obtain ⟨j, hj, rfl⟩ := List.mem_map.1 h2
    rw [Bool.and_eq_true] at g
    cases hc : checkF pl R sup ns G rest
    · rfl
    · exfalso
      unfold checkF at hc
      simp only [Bool.and_eq_true, List.all_eq_true] at hc
      have := hc.2.2.2 i (List.mem_range.2 hi)
      rw [g.1] at this
      simp only [Bool.not_true, Bool.false_or, Bool.and_eq_true, List.all_eq_true] at this
      exact hx (by simpa using this.2 j hj)
  · cases h2
/-- THE STOP OF A SHORT RIGHT. -/
theorem Modest.stops (h : Modest pl R sup ns) {i : Nat} (hi : i < R.length) (hs : shortF pl R (dayList pl R sup ns) i = true) :
    ∃ q : Nat, stopF pl R sup ns (dayList pl R sup ns) i = q ∧ q ∈ rcR pl R i ∧ dayL (thereS pl sup ns) (rcR pl R) (rateR R) R.length q = 0 ∧
      ∀ k, i < k → k < R.length → 0 < dayG (thereS pl sup ns) (rcR pl R) (rateR R) k → q ∉ rcR pl R k := by
  obtain ⟨q, e, h1, h2, h3⟩ := stopF_some.2 _ rfl (h.stop hi hs)
  rw [h.left] at h2
  have h4 := dayL_nn (rate := rateR R) (rc := rcR pl R) (fun p => (h.there p).1) R.length q
  refine ⟨q, e, h1, by omega, fun k k1 k2 k3 k4 => ?_⟩
  have := (lastW_le _).1 h3 k k1 k2 k4 (by rw [dayList_len]; exact k2)
  rw [dayList_got k2] at this
  omega
end
end Go.Proofs.Ythoigjkelinjhaa.CM
