/- The walk of FlowGrows. -/
import Derived.Test.YtanhhdfffggdmaaLM2
import Derived.Deep.AppendLies
namespace Go.Proofs.Ytanhhdfffggdmaa
open Go.RowKit FM
attribute [local go_sem] alloc_drewN setCell_drewN shape_drewN
theorem info37 : (Try.prog.info? 37).map (fun i => (i.zero, i.size, i.bytes)) = some (some (.agg #[.int .i64 0, .int .i64 0, .int .i64 0]), 3, 24) := by kernel_rfl
theorem arcCells_one (A : List Arc) : ∀ u ∈ arcCells A, u.oneCell' = true := by
  intro u hu
  simp only [arcCells, List.mem_flatMap] at hu
  obtain ⟨a, _, ha⟩ := hu
  simp at ha
  rcases ha with rfl | rfl | rfl <;> rfl
theorem arcCells_cap {A : List Arc} {k : Nat} {a : Arc} (h : A[k]? = some a) : (arcCells A)[k * 3 + 2]? = some (.int .i64 a.2.2) := by
  have hk := (List.getElem?_eq_some_iff.1 h).1
  rw [arcCells_get A _ (by omega)]
  have e1 : (k * 3 + 2) % 3 = 2 := by omega
  have e2 : (k * 3 + 2) / 3 = k := by omega
  simp [arcF, e1, e2, List.getD_eq_getElem?_getD, h]
theorem arcs_news {w : World} {b off B : Nat} {A : List Arc} (h : ArcsAt w B (some ⟨b, off, none⟩) A) : ∀ j u, (arcCells A)[j]? = some u → w.cell? ((⟨b, off, none⟩ : Addr).add j) = some u := by
  intro j u hj
  have hl := (List.getElem?_eq_some_iff.1 hj).1
  rw [arcCells_len] at hl
  obtain ⟨b', off', e, _, hc⟩ := h (by omega)
  injection e with e; injection e with e1 e2; subst e1 e2
  rw [Addr.add_lit, hc j (by omega), ← arcCells_get A j hl, hj]

theorem grows_inv (n s t : Int) (C : Option Addr) (cc : Nat) (A : List Arc) (at_ by_ : Int) (w : World) (hC : ArcsAt w w.heap.size C A) (hlA : A.length ≤ 9223372036854775807) (hV : ¬ Valid n A s t) :
    Calls Try.prog 6 #[.int .i64 n, .slice C A.length cc, .int .i64 s, .int .i64 t, .int .i64 at_, .int .i64 by_] w (SmallSaid w) := by
  have Hl := Lib.hid hlA
  have Hv := Lib.hid (validB_false hV)
  clear hV hlA
  go_enter Try.func6, Try.ntmps6
  go_wp2_with (go_at_call 8; refine (small_any _).mono ?_; rintro e0 w0 ⟨rfl, hb0⟩)
  have K1 := Lib.hid (max_no n s t C cc A w0 (hC.step hb0) Hl.out Hv.out)
  go_wp2_with (go_at_call 10; refine K1.out.mono ?_; rintro e1 w1 ⟨rfl, hb1⟩)
  have K2 := Lib.hid (few_any n C cc A w1 Hl.out)
  obtain ⟨q, hq⟩ : ∃ q, q = fewB n A := ⟨_, rfl⟩
  rw [← hq] at K2
  clear hq
  cases q
  all_goals
    go_wp2_with (go_at_call 9; refine K2.out.mono ?_; rintro e2 w2 ⟨rfl, rfl⟩)
    go_ret
    exact ⟨rfl, hb0.trans (hb1.mono hb0.size)⟩
theorem grows_big (n s t : Nat) (C : Option Addr) (cc : Nat) (A : List Arc) (at_ by_ : Int) (w : World) (hC : ArcsAt w w.heap.size C A) (hV : Valid n A s t) (hf : fewB n A = false) :
    Calls Try.prog 6 #[.int .i64 n, .slice C A.length cc, .int .i64 s, .int .i64 t, .int .i64 at_, .int .i64 by_] w (SmallSaid w) := by
  have HV := Lib.hid hV
  have Hf := Lib.hid hf
  clear hV hf
  go_enter Try.func6, Try.ntmps6
  go_wp2_with (go_at_call 8; refine (small_any _).mono ?_; rintro e0 w0 ⟨rfl, hb0⟩)
  have K1 := Lib.hid (max_yes n s t C cc A w0 (hC.step hb0) HV.out)
  go_wp2_with (go_at_call 10; refine K1.out.mono ?_; rintro e1 w1 ⟨f1, v1, R1, vs1, rfl, hm1, g0, g1, hs1, hb1⟩)
  have K2 := Lib.hid (few_any n C cc A w1 (by have := HV.out.2.2.1; omega))
  rw [Hf.out] at K2
  go_wp2_with (go_at_call 9; refine K2.out.mono ?_; rintro e2 w2 ⟨rfl, rfl⟩)
  go_ret
  exact ⟨rfl, hb0.trans (hb1.mono hb0.size)⟩

set_option maxHeartbeats 1000000 in
theorem grows_out (n s t : Nat) (C : Option Addr) (cc : Nat) (A : List Arc) (at_ by_ : Int) (w : World) (hC : ArcsAt w w.heap.size C A) (hV : Valid n A s t) (hf : fewB n A = true) (hno : ¬ (0 ≤ at_ ∧ at_ < A.length ∧ 0 ≤ by_ ∧ ∀ a, A[at_.toNat]? = some a → by_ ≤ 1125899906842624 - a.2.2)) :
    Calls Try.prog 6 #[.int .i64 n, .slice C A.length cc, .int .i64 s, .int .i64 t, .int .i64 at_, .int .i64 by_] w (SmallSaid w) := by
  have HV := Lib.hid hV
  have Hf := Lib.hid hf
  obtain ⟨v1, v2, v3, _, v4, v5, v6, v7, v8⟩ := id hV
  obtain ⟨hA, hcap⟩ := valid_facts hV
  clear hV hf
  go_enter Try.func6, Try.ntmps6
  go_wp2_with (go_at_call 8; refine (small_any _).mono ?_; rintro e0 w0 ⟨rfl, hb0⟩)
  have hC0 := hC.step hb0
  have K1 := Lib.hid (max_yes n s t C cc A w0 hC0 HV.out)
  go_wp2_with (go_at_call 10; refine K1.out.mono ?_; rintro e1 w1 ⟨f1, v, R, vs1, rfl, hm1, g0, g1, hs1, hb1⟩; obtain ⟨ao1, c1, rfl, hi1⟩ := hs1)
  have hC1 := hC0.step hb1
  have K2 := Lib.hid (few_any n C cc A w1 (by omega))
  rw [Hf.out] at K2
  have hbw1 : Below w.heap.size w w1 := hb0.trans (hb1.mono hb0.size)
  have hln := sideL_len n R
  have hend : ∀ e w', e = .returned (.bool true) → w' = w1 → SmallSaid w e w' := fun e w' h1 h2 => by subst h1 h2; exact ⟨rfl, hbw1⟩
  by_cases h1 : 0 ≤ at_
  case neg =>
    clear hno
    go_wp2_with (go_at_call 9; refine K2.out.mono ?_; rintro e2 w2 ⟨rfl, rfl⟩)
    go_ret
    exact ⟨rfl, hbw1⟩
  obtain ⟨k, hk⟩ := Int.eq_ofNat_of_zero_le h1
  subst hk
  by_cases h2 : k < A.length
  case neg =>
    have h2' : decide ((A.length : Int) ≤ (k : Int)) = true := by simp; omega
    have h2'' : decide (A.length ≤ k) = true := by simp; omega
    clear hno
    go_wp2_with (go_at_call 9; refine K2.out.mono ?_; rintro e2 w2 ⟨rfl, rfl⟩)
    go_ret
    exact ⟨rfl, hbw1⟩
  have h2' : decide ((A.length : Int) ≤ (k : Int)) = false := by simp; omega
  have h2'' : decide (A.length ≤ k) = false := by simp; omega
  by_cases h3 : 0 ≤ by_
  case neg =>
    clear hno
    go_wp2_with (go_at_call 9; refine K2.out.mono ?_; rintro e2 w2 ⟨rfl, rfl⟩)
    go_ret
    exact ⟨rfl, hbw1⟩
  obtain ⟨b, off, x, y, z, hCe, hbb, ha, c0, c1', c2⟩ := hC1.at_ h2
  subst hCe
  have hz := hcap _ (List.mem_of_getElem? ha.out)
  have hz : 0 ≤ z ∧ z ≤ 1125899906842624 := hz
  have h4 : ¬ by_ ≤ 1125899906842624 - z := fun h => hno ⟨h1, by omega, h3, fun a hk => by
    rw [Int.toNat_natCast, ha.out] at hk; obtain rfl := Option.some.inj hk; exact h⟩
  have h4' : 1125899906842624 - z < by_ := by omega
  clear hno
  go_wp2_with (go_at_call 9; refine K2.out.mono ?_; rintro e2 w2 ⟨rfl, rfl⟩)
  go_ret
  exact ⟨rfl, hbw1⟩

set_option maxHeartbeats 1000000 in
theorem grows_main (n s t : Nat) (C : Option Addr) (cc : Nat) (A : List Arc) (k : Nat) (by_ : Int) (w : World) (hC : ArcsAt w w.heap.size C A) (hV : Valid n A s t) (hf : fewB n A = true) (h2 : k < A.length) (h3 : 0 ≤ by_) (h4 : ∀ a, A[k]? = some a → by_ ≤ 1125899906842624 - a.2.2) :
    Calls Try.prog 6 #[.int .i64 n, .slice C A.length cc, .int .i64 s, .int .i64 t, .int .i64 (k : Int), .int .i64 by_] w (SmallSaid w) := by
  obtain ⟨i7, ki, kz0, kz1, kz2⟩ := info_parts info37
  have hA24 : A.length ≤ 24 := by
    have h : (decide ((n : Int) ≤ 10) && decide (A.length ≤ 24)) = true := hf
    simp at h; omega
  have HV := Lib.hid hV
  have Hf := Lib.hid hf
  obtain ⟨v1, v2, v3, _, v4, v5, v6, v7, v8⟩ := id hV
  obtain ⟨hA, hcap⟩ := valid_facts hV
  clear hV hf
  go_enter Try.func6, Try.ntmps6
  go_wp2_with (go_at_call 8; refine (small_any _).mono ?_; rintro e0 w0 ⟨rfl, hb0⟩)
  have hC0 := hC.step hb0
  have K1 := Lib.hid (max_yes n s t C cc A w0 hC0 HV.out)
  go_wp2_with (go_at_call 10; refine K1.out.mono ?_; rintro e1 w1 ⟨f1, v, R, vs1, rfl, hm1, g0, g1, hs1, hb1⟩; obtain ⟨ao1, c1, rfl, hi1⟩ := hs1)
  have hC1 := hC0.step hb1
  have K2 := Lib.hid (few_any n C cc A w1 (by omega))
  rw [Hf.out] at K2
  have hbw1 : Below w.heap.size w w1 := hb0.trans (hb1.mono hb0.size)
  have hln := sideL_len n R
  have h2' : decide ((A.length : Int) ≤ (k : Int)) = false := by simp; omega
  have h2'' : decide (A.length ≤ k) = false := by simp; omega
  have hC1' := hC1
  obtain ⟨b, off, x, y, z, hCe, hbb, ha, c0, c1', c2⟩ := hC1.at_ h2
  subst hCe
  have hz := hcap _ (List.mem_of_getElem? ha.out)
  have hz : 0 ≤ z ∧ z ≤ 1125899906842624 := hz
  have h4 := h4 _ ha.out
  have h4 : by_ ≤ 1125899906842624 - z := h4
  have hV2 := more_valid HV.out ha.out h3 (by show z + by_ ≤ _; omega)
  have hown0 : (w1.alloc (.cells #[] 37)).ownsRow w1.heap.size 37 3 (.slice (some ⟨w1.heap.size, 0, none⟩) 0 0) 0 [] := World.ownsRow_lit w1 #[] 0 (Nat.le_refl _) (by decide) (by decide)
  have hnews := Lib.hid (arcs_news (hC1'.below (below_new w1 (.cells #[] 37))))
  have hk0 : 0 ≤ (k : Int) ∧ (k : Int) < (A.length : Int) := by omega
  go_wp2_with (first | (go_at_call 9; refine K2.out.mono ?_; rintro e2 w2 ⟨rfl, rfl⟩) | (at_builtin; refine wpList_append_lies _ rfl (.tmp 65) (.tmp 66) 22 rfl w1.heap.size 37 i7 (.agg #[.int .i64 0, .int .i64 0, .int .i64 0]) 3 24 Try.underlying22 ki kz0 kz1 kz2 rfl (by decide) _ 0 [] rfl hown0 ⟨b, off, none⟩ A.length cc (arcCells A) rfl (arcCells_len A) hnews.out (arcCells_one A) (by omega) (by unfold maxLen; omega) (by omega) (by simp) (w1.heap.size + 1) (by simp) ?_; intro g cap w3 hown hgrow hat hlt; simp only [Nat.zero_add, List.nil_append] at hown; have hcell := (hown.cellAt (k * 3 + 2) (by omega)).trans (arcCells_cap ha.out); have hfree := hown.frozenAt (k * 3 + 2); dsimp only at hcell) | fail)
  have hstore := (World.ownsRow.stored hown (k * 3 + 2) (.int .i64 (z + by_))).1
  rw [show z + by_ = ((x, y, z) : Arc).2.2 + by_ from rfl, ← more_cells ha.out] at hstore
  have hml : (more A k (x, y, z) by_).length = A.length := by simp [more]; omega
  rw [← hml] at hstore
  obtain ⟨C', cc', hCe', hA4⟩ := arcs_of_owns hstore
  have hm2 : (.slice (some ⟨g, 0, none⟩) A.length cap : Value) = .slice C' (more A k (x, y, z) by_).length cc' := by rw [← hCe', hml]
  have hb14 : Below w1.heap.size w1 (w3.setCell ⟨g, k * 3 + 2, none⟩ (.int .i64 (z + by_))) := by
    have h1 : Below w1.heap.size w1 w3 := ((Below.refl _ w1).alloc (Nat.le_refl _) (.cells #[] 37)).grown hgrow (by simp) (fun q h => by have e : some w1.heap.size = some q := h; injection e with e; omega)
    refine h1.setCell ?_ _
    show w1.heap.size ≤ g
    rcases hat with h | h
    · have e : some w1.heap.size = some g := h
      injection e with e; omega
    · omega
  obtain ⟨w4, hw4⟩ : ∃ w4, w4 = w3.setCell ⟨g, k * 3 + 2, none⟩ (.int .i64 (z + by_)) := ⟨_, rfl⟩
  rw [← hw4] at hb14 ⊢
  have hA4' : ArcsAt w4 w4.heap.size C' (more A k (x, y, z) by_) := by rw [hw4]; exact hA4
  have k3 := max_yes n s t C' cc' (more A k (x, y, z) by_) w4 hA4' hV2
  rw [← hm2] at k3
  have K3 := Lib.hid k3
  clear hstore hA4 hw4 k3 hm2 hCe' hown hgrow hcell hfree hA4' hat hown0
  go_wp2_with (go_at_call 10; refine K3.out.mono ?_; rintro e5 w5 ⟨f2, v', R2, vs2, rfl, hm2, g2, g3, hs2, hb5⟩; obtain ⟨ao2, c2', rfl, hi2⟩ := hs2; have hb15 := hb14.trans (hb5.mono hb14.size); have d0 : w5.cell? ⟨b, off + k * 3, none⟩ = some (.int .i64 x) := (hb15.cell (p := ⟨b, off + k * 3, none⟩) hbb).trans c0; have d1 : w5.cell? ⟨b, off + k * 3 + 1, none⟩ = some (.int .i64 y) := (hb15.cell (p := ⟨b, off + k * 3 + 1, none⟩) hbb).trans c1')
  obtain ⟨q1, q2, q3⟩ := grows_max hA v4 v5 h3 ha.out hm1 hm2
  have hin := hA _ (List.mem_of_getElem? ha.out)
  obtain ⟨z0, z1, z2, z3⟩ := hin
  have hbw5 := hbw1.trans (hb15.mono hbw1.size)
  have hi15 := ints_step hi1 hb15
  have kx := has_any ao1 c1 (sideL n R) x w5 hi15 (by omega)
  have ky := has_any ao1 c1 (sideL n R) y w5 hi15 (by omega)
  rw [memB_sideL z0 z1] at kx
  rw [memB_sideL z2 z3] at ky
  have q3 : (R x && !R y) = false → v' = v := q3
  obtain ⟨p, hp⟩ : ∃ p, p = R x := ⟨_, rfl⟩
  obtain ⟨q, hq⟩ : ∃ q, q = R y := ⟨_, rfl⟩
  rw [← hp] at kx q3
  rw [← hq] at ky q3
  have KK := Lib.hid (And.intro kx ky)
  have q2' : v' - v ≤ by_ := by omega
  have hdn : decide ((k : Int) < 0) = false := by simp
  clear kx ky hp hq
  cases p
  · have e := q3 rfl
    subst e
    go_wp2_with (go_at_call 18; ((with_reducible refine KK.out.1.mono ?_); rintro e6 w6 ⟨rfl, rfl⟩))
    go_ret
    exact ⟨rfl, hbw5⟩
  · cases q
    · have wr1 : IntKind.i64.wrap (v' - v) = v' - v := IntWalk.i64_in _ (by omega)
      go_wp2_with (go_at_call 18; (first | ((with_reducible refine KK.out.1.mono ?_); rintro e6 w6 ⟨rfl, rfl⟩) | ((with_reducible refine KK.out.2.mono ?_); rintro e6 w6 ⟨rfl, rfl⟩) | fail))
      go_ret
      exact ⟨rfl, hbw5⟩
    · have e := q3 rfl
      subst e
      go_wp2_with (go_at_call 18; (first | ((with_reducible refine KK.out.1.mono ?_); rintro e6 w6 ⟨rfl, rfl⟩) | ((with_reducible refine KK.out.2.mono ?_); rintro e6 w6 ⟨rfl, rfl⟩) | fail))
      go_ret
      exact ⟨rfl, hbw5⟩
theorem grows_any (n s t : Int) (C : Option Addr) (cc : Nat) (A : List Arc) (at_ by_ : Int) (w : World) (hC : ArcsAt w w.heap.size C A) (hlA : A.length ≤ 9223372036854775807) :
    Calls Try.prog 6 #[.int .i64 n, .slice C A.length cc, .int .i64 s, .int .i64 t, .int .i64 at_, .int .i64 by_] w (SmallSaid w) := by
  by_cases hV : Valid n A s t
  · obtain ⟨n, rfl⟩ := Int.eq_ofNat_of_zero_le (show 0 ≤ n by have := hV.1; omega)
    obtain ⟨s, rfl⟩ := Int.eq_ofNat_of_zero_le hV.2.2.2.2.1
    obtain ⟨t, rfl⟩ := Int.eq_ofNat_of_zero_le hV.2.2.2.2.2.2.1
    cases hf : fewB n A
    · exact grows_big n s t C cc A at_ by_ w hC hV hf
    · by_cases h : 0 ≤ at_ ∧ at_ < A.length ∧ 0 ≤ by_ ∧ ∀ a, A[at_.toNat]? = some a → by_ ≤ 1125899906842624 - a.2.2
      · obtain ⟨h1, h2, h3, h4⟩ := h
        obtain ⟨k, rfl⟩ := Int.eq_ofNat_of_zero_le h1
        exact grows_main n s t C cc A k by_ w hC hV hf (by omega) h3 h4
      · exact grows_out n s t C cc A at_ by_ w hC hV hf h
  · exact grows_inv n s t C cc A at_ by_ w hC hlA hV
end Go.Proofs.Ytanhhdfffggdmaa
