/- The walk of RightLink. (Printed by gen_g7.py.) -/
import Derived.Test.YthoigjkelinjhaaG6b
import Derived.Test.YthoigjkelinjhaaG7
set_option linter.unusedSimpArgs false
set_option linter.unusedVariables false
namespace Go.Proofs.Ythoigjkelinjhaa.RT
open Go.RowKit BV
attribute [local go_sem] alloc_drewN setCell_drewN shape_drewN
set_option maxRecDepth 100000 in
set_option maxHeartbeats 8000000 in
theorem rightLink_any (X : Bas) (pl : CM.Pl) (i : Nat) (w : World) (hX : BasOk w w.heap.size X pl) (hi : i < X.l4) : Calls Try.prog 35 #[.agg #[.string X.nm, .slice X.a1 X.l1 X.c1, .int .i64 X.cl, .slice X.P pl.length X.cP, .slice X.a4 X.l4 X.c4, .slice X.a5 X.l5 X.c5, .slice X.a6 X.l6 X.c6, .slice X.a7 X.l7 X.c7, .slice X.a8 X.l8 X.c8, .slice X.a9 X.l9 X.c9, .int .i64 X.er], .int .i64 i] w (SomeB w) := by
  have hpl := hX.pla.1
  have hll := hX.lnk.1
  obtain ⟨nm, a1, l1, c1, cl, P, cP, a4, l4, c4, a5, l5, c5, a6, l6, c6, a7, l7, c7, a8, l8, c8, a9, l9, c9, er⟩ := X
  dsimp only at hi hll ⊢
  have KN : Hid (∀ (office t : Int) (wx : World), Below w.heap.size w wx → Calls Try.prog 47 #[.agg #[.string nm, .slice a1 l1 c1, .int .i64 cl, .slice P pl.length cP, .slice a4 l4 c4, .slice a5 l5 c5, .slice a6 l6 c6, .slice a7 l7 c7, .slice a8 l8 c8, .slice a9 l9 c9, .int .i64 er], .int .i64 office, .int .i64 t] wx (NextIs pl.length t wx)) := fun office t wx h => next_any ⟨nm, a1, l1, c1, cl, P, cP, a4, l4, c4, a5, l5, c5, a6, l6, c6, a7, l7, c7, a8, l8, c8, a9, l9, c9, er⟩ pl office t wx (hX.up h)
  have hB0 : Below w.heap.size w (w.alloc (.cells (#[.string nm, .slice a1 l1 c1, .int .i64 cl, .slice P pl.length cP, .slice a4 l4 c4, .slice a5 l5 c5, .slice a6 l6 c6, .slice a7 l7 c7, .slice a8 l8 c8, .slice a9 l9 c9, .int .i64 er]) 31)) := (Below.refl _ _).alloc (Nat.le_refl _) _
  have hX0 : Box (w.alloc (.cells (#[.string nm, .slice a1 l1 c1, .int .i64 cl, .slice P pl.length cP, .slice a4 l4 c4, .slice a5 l5 c5, .slice a6 l6 c6, .slice a7 l7 c7, .slice a8 l8 c8, .slice a9 l9 c9, .int .i64 er]) 31)) w.heap.size (#[.string nm, .slice a1 l1 c1, .int .i64 cl, .slice P pl.length cP, .slice a4 l4 c4, .slice a5 l5 c5, .slice a6 l6 c6, .slice a7 l7 c7, .slice a8 l8 c8, .slice a9 l9 c9, .int .i64 er]) 31 := Box.new w _ _
  have HO := Lib.hid hX
  obtain ⟨_, fs, hu, _⟩ := fieldsLk
  have HU := Lib.hid hu
  have KI := Lib.hid (fun n lo hi wx => in_any n lo hi wx)
  obtain ⟨bl, offl, p, hal, hbl, hpo, hra⟩ := lk_at hX.lnk hi
  dsimp only at hal
  subst hal
  have KF := Lib.hid (fun wx (h : Below w.heap.size w wx) => fields_any p wx (hpo.up h))
  have HR : Hid ((w.alloc (.cells (#[.string nm, .slice a1 l1 c1, .int .i64 cl, .slice P pl.length cP, .slice (some ⟨bl, offl, none⟩) l4 c4, .slice a5 l5 c5, .slice a6 l6 c6, .slice a7 l7 c7, .slice a8 l8 c8, .slice a9 l9 c9, .int .i64 er]) 31)).rangeAt bl (offl + i * 18) p.cells) := fun j u hu => (hB0.cell (p := ⟨bl, offl + i * 18 + j, none⟩) hbl).trans (hra j u hu)
  clear hX hu hra hpo
  go_enter Try.func35, Try.ntmps35
  go_upto_region 1 with fail
  have hwz : w.heap.size < (w.alloc (.cells (#[.string nm, .slice a1 l1 c1, .int .i64 cl, .slice P pl.length cP, .slice (some ⟨bl, offl, none⟩) l4 c4, .slice a5 l5 c5, .slice a6 l6 c6, .slice a7 l7 c7, .slice a8 l8 c8, .slice a9 l9 c9, .int .i64 er]) 31)).heap.size := hX0.lt
  generalize (w.alloc (.cells (#[.string nm, .slice a1 l1 c1, .int .i64 cl, .slice P pl.length cP, .slice (some ⟨bl, offl, none⟩) l4 c4, .slice a5 l5 c5, .slice a6 l6 c6, .slice a7 l7 c7, .slice a8 l8 c8, .slice a9 l9 c9, .int .i64 er]) 31)) = w0 at hB0 hX0 hwz HR ⊢
  have x4 : w0.cell? ⟨w.heap.size, 4, none⟩ = some (.slice (some ⟨bl, offl, none⟩) l4 c4) := hX0.cell rfl
  have hbl0 : bl < w0.heap.size := by omega
  have hY2 : Box (w0.alloc (.cells (#[.string ⟨#[]⟩, .int .i64 0, .int .i64 0, .int .i64 0, .slice none 0 0, .slice none 0 0, .slice none 0 0, .int .i64 0, .int .i64 0, .int .i64 0, .int .i64 0, .int .i64 0, .int .i64 0, .int .i64 0, .int .i64 0, .int .i64 0, .int .i64 0, .int .i64 0]) 108)) w0.heap.size (#[.string ⟨#[]⟩, .int .i64 0, .int .i64 0, .int .i64 0, .slice none 0 0, .slice none 0 0, .slice none 0 0, .int .i64 0, .int .i64 0, .int .i64 0, .int .i64 0, .int .i64 0, .int .i64 0, .int .i64 0, .int .i64 0, .int .i64 0, .int .i64 0, .int .i64 0]) 108 := Box.new _ _ _
  have hX2 : Box (w0.alloc (.cells (#[.string ⟨#[]⟩, .int .i64 0, .int .i64 0, .int .i64 0, .slice none 0 0, .slice none 0 0, .slice none 0 0, .int .i64 0, .int .i64 0, .int .i64 0, .int .i64 0, .int .i64 0, .int .i64 0, .int .i64 0, .int .i64 0, .int .i64 0, .int .i64 0, .int .i64 0]) 108)) w.heap.size (#[.string nm, .slice a1 l1 c1, .int .i64 cl, .slice P pl.length cP, .slice (some ⟨bl, offl, none⟩) l4 c4, .slice a5 l5 c5, .slice a6 l6 c6, .slice a7 l7 c7, .slice a8 l8 c8, .slice a9 l9 c9, .int .i64 er]) 31 := hX0.keep (Below.heap_alloc _ _ _ hX0.lt)
  have hB2 : Below w.heap.size w (w0.alloc (.cells (#[.string ⟨#[]⟩, .int .i64 0, .int .i64 0, .int .i64 0, .slice none 0 0, .slice none 0 0, .slice none 0 0, .int .i64 0, .int .i64 0, .int .i64 0, .int .i64 0, .int .i64 0, .int .i64 0, .int .i64 0, .int .i64 0, .int .i64 0, .int .i64 0, .int .i64 0]) 108)) := hB0.alloc hB0.size _
  have hne : w.heap.size ≠ w0.heap.size := by omega
  have Hth := Lib.hid (hY2.there (n := p.cells.toArray.size) rfl)
  have HX3 := Lib.hid (hX2.keep (heap_all hne p.cells.toArray.toList 0 _))
  have HY3 := Lib.hid (hY2.all p.cells.toArray.toList rfl)
  have hB3 := below_all hB2 (show w.heap.size ≤ w0.heap.size by omega) p.cells.toArray.toList 0
  clear hX2 hY2 hB2
  go_upto_region 2 with (first | (refine wpList_load_mid (by rfl) 108 _ (by rfl) bl (offl + i * 18) (by rfl) p.cells _ HR.out HU.out rfl (lkInfo p) ?_) | (refine wpList_store_mid (by rfl) 108 _ _ (by rfl) w0.heap.size 0 p.cells.toArray (by rfl) (by rfl) Hth.out (by simpa using lkInfo p) (lkOne p) ?_) | fail)
  generalize ((w0.alloc (.cells (#[.string ⟨#[]⟩, .int .i64 0, .int .i64 0, .int .i64 0, .slice none 0 0, .slice none 0 0, .slice none 0 0, .int .i64 0, .int .i64 0, .int .i64 0, .int .i64 0, .int .i64 0, .int .i64 0, .int .i64 0, .int .i64 0, .int .i64 0, .int .i64 0, .int .i64 0]) 108)).setCells w0.heap.size 0 p.cells) = W at HX3 HY3 hB3 ⊢
  clear Hth
  generalize w0.heap.size = b5 at HX3 HY3 hne hwz ⊢
  have hX := HX3.out
  have hY := HY3.out
  have hB := hB3
  have hWb := hY.lt
  clear HX3 HY3 hB3 hB0 hX0 HR
  clear x4 hbl0
  obtain ⟨f, hf⟩ : ∃ x, p.frm = x := ⟨_, rfl⟩
  obtain ⟨g, hg⟩ : ∃ x, p.to_ = x := ⟨_, rfl⟩
  have y2 : W.cell? ⟨b5, 2, none⟩ = some (.int .i64 f) := by rw [← hf]; exact hY.cell rfl
  have y3 : W.cell? ⟨b5, 3, none⟩ = some (.int .i64 g) := by rw [← hg]; exact hY.cell rfl
  have y1 : W.cell? ⟨b5, 1, none⟩ = some (.int .i64 p.kind) := hY.cell rfl
  have y17 : W.cell? ⟨b5, 17, none⟩ = some (.int .i64 p.delay) := hY.cell rfl
  clear hf hg
  have hpl2 : (pl.length : Int) ≤ 9223372036854775807 := by omega
  by_cases g1 : f < 0
  · have e1 : decide (f < 0) = true := decide_eq_true g1
    go_wp2_with fail
    go_ret
    exact ⟨false, rfl, hB⟩
  · have e1 : decide (f < 0) = false := decide_eq_false g1
    have x3 : W.cell? ⟨w.heap.size, 3, none⟩ = some (.slice P pl.length cP) := hX.cell rfl
    by_cases g2 : (pl.length : Int) ≤ f
    · have e2 : decide ((pl.length : Int) ≤ f) = true := decide_eq_true g2
      go_wp2_with fail
      go_ret
      exact ⟨false, rfl, hB⟩
    · have e2 : decide ((pl.length : Int) ≤ f) = false := decide_eq_false g2
      by_cases g3 : f = g
      · subst g3
        go_wp2_with fail
        go_ret
        exact ⟨false, rfl, hB⟩
      · have e3 : (f == g) = false := by simpa using g3
        obtain ⟨k, rfl⟩ := Int.eq_ofNat_of_zero_le (show 0 ≤ f by omega)
        have hk : k < pl.length := by omega
        obtain ⟨bq, offq, r, ecq, hbq, _, q0, q1, q2, _⟩ := Pv.at_ (HO.out.below hB).pla hk
        dsimp only at ecq
        subst ecq
        have hbqW : bq < W.heap.size := by have := hB.size; omega
        clear q0 q1 g1 g2 x3
        have x0 : W.cell? ⟨w.heap.size, 0, none⟩ = some (.string nm) := hX.cell rfl
        have x1 : W.cell? ⟨w.heap.size, 1, none⟩ = some (.slice a1 l1 c1) := hX.cell rfl
        have x2 : W.cell? ⟨w.heap.size, 2, none⟩ = some (.int .i64 cl) := hX.cell rfl
        have x3 : W.cell? ⟨w.heap.size, 3, none⟩ = some (.slice (some ⟨bq, offq, none⟩) pl.length cP) := hX.cell rfl
        have x4 : W.cell? ⟨w.heap.size, 4, none⟩ = some (.slice (some ⟨bl, offl, none⟩) l4 c4) := hX.cell rfl
        have x5 : W.cell? ⟨w.heap.size, 5, none⟩ = some (.slice a5 l5 c5) := hX.cell rfl
        have x6 : W.cell? ⟨w.heap.size, 6, none⟩ = some (.slice a6 l6 c6) := hX.cell rfl
        have x7 : W.cell? ⟨w.heap.size, 7, none⟩ = some (.slice a7 l7 c7) := hX.cell rfl
        have x8 : W.cell? ⟨w.heap.size, 8, none⟩ = some (.slice a8 l8 c8) := hX.cell rfl
        have x9 : W.cell? ⟨w.heap.size, 9, none⟩ = some (.slice a9 l9 c9) := hX.cell rfl
        have x10 : W.cell? ⟨w.heap.size, 10, none⟩ = some (.int .i64 er) := hX.cell rfl
        go_wp2_with fail
        go_at_call 31
        (with_reducible refine (KI.out _ _ _ _).mono ?_)
        rintro e5 w5 ⟨b, rfl, rfl, _⟩
        cases b
        · go_wp2_with fail
          go_ret
          exact ⟨false, rfl, hB⟩
        · go_wp2_with fail
          go_at_call 47
          (with_reducible refine (KN.out _ _ _ hB).mono ?_)
          rintro e9 w9 ⟨b, rfl, hb9, hc9⟩
          have hB9 := hB.trans (hb9.mono hB.size)
          cases b
          · go_wp2_with fail
            go_ret
            exact ⟨false, rfl, hB9⟩
          · have HC := Lib.hid (hc9 rfl)
            clear hc9
            have hX9 := hX.below hb9 hX.lt
            have hY9 := hY.below hb9 hWb
            have z1 : w9.cell? ⟨b5, 1, none⟩ = some (.int .i64 p.kind) := (hb9.cell (p := ⟨b5, 1, none⟩) hWb).trans y1
            have z3 : w9.cell? ⟨b5, 3, none⟩ = some (.int .i64 g) := (hb9.cell (p := ⟨b5, 3, none⟩) hWb).trans y3
            have v3 : w9.cell? ⟨w.heap.size, 3, none⟩ = some (.slice (some ⟨bq, offq, none⟩) pl.length cP) := hX9.cell rfl
            have HY9 := Lib.hid hY9
            have KF9 := Lib.hid (KF.out w9 hB9)
            have hk9 := hb9.size
            clear hX hY y1 y2 y3 y17 x0 x1 x2 x3 x4 x5 x6 x7 x8 x9 x10 q2
            by_cases h4 : p.kind = 4
            · have k4 : (p.kind == 4) = true := by simp [h4]
              by_cases h5 : g < 0
              · have e5 : decide (g < 0) = true := decide_eq_true h5
                go_wp2_with fail
                go_ret
                exact ⟨false, rfl, hB9⟩
              · have e5 : decide (g < 0) = false := decide_eq_false h5
                obtain ⟨m, rfl⟩ := Int.eq_ofNat_of_zero_le (show 0 ≤ g by omega)
                have hm : m < pl.length := by have := HC.out; omega
                obtain ⟨bq', offq', r', ecq', hbq', _, s0, s1, s2, _⟩ := Pv.at_ (HO.out.below hB9).pla hm
                (injection ecq' with ecq'; injection ecq' with eb eo; subst eb eo)
                have hbq9 : bq < w9.heap.size := by omega
                obtain ⟨u, hu⟩ : ∃ u, r'.office = u := ⟨_, rfl⟩
                obtain ⟨v, hv⟩ : ∃ u, r.office = u := ⟨_, rfl⟩
                rw [hu] at s2
                rw [hv]
                clear s0 s1 hu hv
                by_cases h6 : u = v
                · subst h6
                  go_upto_region 7 with fail
                  go_wp2_with (first | (refine wpList_load_mid (by rfl) 108 _ (by rfl) b5 0 (by rfl) p.cells _ HY9.out.range HU.out rfl (lkInfo p) ?_) | fail)
                  go_at_call 49
                  (with_reducible refine KF9.out.mono ?_)
                  rintro e7 w7 ⟨b, rfl, hb7⟩
                  go_wp2_with fail
                  go_ret
                  exact ⟨_, rfl, hB9.trans (hb7.mono hB9.size)⟩
                · have e6 : (u != v) = true := by simpa using h6
                  go_wp2_with fail
                  go_ret
                  exact ⟨false, rfl, hB9⟩
            · have k4 : (p.kind == 4) = false := by simpa using h4
              go_upto_region 7 with fail
              go_wp2_with (first | (refine wpList_load_mid (by rfl) 108 _ (by rfl) b5 0 (by rfl) p.cells _ HY9.out.range HU.out rfl (lkInfo p) ?_) | fail)
              go_at_call 49
              (with_reducible refine KF9.out.mono ?_)
              rintro e7 w7 ⟨b, rfl, hb7⟩
              go_wp2_with fail
              go_ret
              exact ⟨_, rfl, hB9.trans (hb7.mono hB9.size)⟩
end Go.Proofs.Ythoigjkelinjhaa.RT
