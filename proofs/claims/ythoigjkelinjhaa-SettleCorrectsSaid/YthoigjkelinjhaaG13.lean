/- The walk of the reference's Right of a basin, given the contracts of named and peopled. (Printed by gen_g13.py.) -/
import Derived.Test.YthoigjkelinjhaaG7b
import Derived.Test.YthoigjkelinjhaaG8
import Derived.Test.YthoigjkelinjhaaG10
import Derived.Test.YthoigjkelinjhaaG11
set_option linter.unusedSimpArgs false
set_option linter.unusedVariables false
namespace Go.Proofs.Ythoigjkelinjhaa.RT
open Go.RowKit BV
attribute [local go_sem] alloc_drewN setCell_drewN shape_drewN
set_option maxRecDepth 100000 in
set_option maxHeartbeats 8000000 in
theorem right16_of (KN0 : ∀ (X : Bas) (pl : CM.Pl) (w : World), BasOk w w.heap.size X pl → pl.length ≤ 8 → X.l4 ≤ 4 → X.l5 ≤ 4 → X.l6 ≤ 6 → X.l7 ≤ 128 → X.l8 ≤ 40 → Calls Try.prog 30 #[.agg #[.string X.nm, .slice X.a1 X.l1 X.c1, .int .i64 X.cl, .slice X.P pl.length X.cP, .slice X.a4 X.l4 X.c4, .slice X.a5 X.l5 X.c5, .slice X.a6 X.l6 X.c6, .slice X.a7 X.l7 X.c7, .slice X.a8 X.l8 X.c8, .slice X.a9 X.l9 X.c9, .int .i64 X.er]] w (SomeB w)) (KP0 : ∀ (X : Bas) (pl : CM.Pl) (w : World), BasOk w w.heap.size X pl → Calls Try.prog 37 #[.agg #[.string X.nm, .slice X.a1 X.l1 X.c1, .int .i64 X.cl, .slice X.P pl.length X.cP, .slice X.a4 X.l4 X.c4, .slice X.a5 X.l5 X.c5, .slice X.a6 X.l6 X.c6, .slice X.a7 X.l7 X.c7, .slice X.a8 X.l8 X.c8, .slice X.a9 X.l9 X.c9, .int .i64 X.er]] w (SomeB w))
    (X : Bas) (pl : CM.Pl) (w : World) (hX : BasOk w w.heap.size X pl) (hnm : X.nm.size ≤ 9223372036854775807) (hf3 : pl.length ≤ 8) (hf4 : X.l4 ≤ 4) (hf5 : X.l5 ≤ 4) (hf6 : X.l6 ≤ 6) : Calls Try.prog 20 #[.agg #[.string X.nm, .slice X.a1 X.l1 X.c1, .int .i64 X.cl, .slice X.P pl.length X.cP, .slice X.a4 X.l4 X.c4, .slice X.a5 X.l5 X.c5, .slice X.a6 X.l6 X.c6, .slice X.a7 X.l7 X.c7, .slice X.a8 X.l8 X.c8, .slice X.a9 X.l9 X.c9, .int .i64 X.er]] w (SomeB w) := by
  have n9 := hX.roo.1
  have n3 := hX.pla.1
  have n4 := hX.lnk.1
  obtain ⟨nm, a1, l1, c1, cl, P, cP, a4, l4, c4, a5, l5, c5, a6, l6, c6, a7, l7, c7, a8, l8, c8, a9, l9, c9, er⟩ := X
  dsimp only at n9 n4 hnm hf4 hf5 hf6 ⊢
  have HO := Lib.hid hX
  have KNA : Hid (∀ (_ : l7 ≤ 128 ∧ l8 ≤ 40) (wx : World), Below w.heap.size w wx → Calls Try.prog 30 #[.agg #[.string nm, .slice a1 l1 c1, .int .i64 cl, .slice P pl.length cP, .slice a4 l4 c4, .slice a5 l5 c5, .slice a6 l6 c6, .slice a7 l7 c7, .slice a8 l8 c8, .slice a9 l9 c9, .int .i64 er]] wx (SomeB wx)) := fun h78 wx h => KN0 ⟨nm, a1, l1, c1, cl, P, cP, a4, l4, c4, a5, l5, c5, a6, l6, c6, a7, l7, c7, a8, l8, c8, a9, l9, c9, er⟩ pl wx (hX.up h) hf3 hf4 hf5 hf6 h78.1 h78.2
  have KPE : Hid (∀ (wx : World), Below w.heap.size w wx → Calls Try.prog 37 #[.agg #[.string nm, .slice a1 l1 c1, .int .i64 cl, .slice P pl.length cP, .slice a4 l4 c4, .slice a5 l5 c5, .slice a6 l6 c6, .slice a7 l7 c7, .slice a8 l8 c8, .slice a9 l9 c9, .int .i64 er]] wx (SomeB wx)) := fun wx h => KP0 ⟨nm, a1, l1, c1, cl, P, cP, a4, l4, c4, a5, l5, c5, a6, l6, c6, a7, l7, c7, a8, l8, c8, a9, l9, c9, er⟩ pl wx (hX.up h)
  have KSZ : Hid (∀ (wx : World), Below w.heap.size w wx → Calls Try.prog 28 #[.agg #[.string nm, .slice a1 l1 c1, .int .i64 cl, .slice P pl.length cP, .slice a4 l4 c4, .slice a5 l5 c5, .slice a6 l6 c6, .slice a7 l7 c7, .slice a8 l8 c8, .slice a9 l9 c9, .int .i64 er]] wx (SizesIs l9 l7 l8 wx)) := fun wx h => sizes_any ⟨nm, a1, l1, c1, cl, P, cP, a4, l4, c4, a5, l5, c5, a6, l6, c6, a7, l7, c7, a8, l8, c8, a9, l9, c9, er⟩ pl wx (hX.up h)
  have KRP : Hid (∀ (i : Nat) (_ : i < pl.length) (wx : World), Below w.heap.size w wx → Calls Try.prog 33 #[.agg #[.string nm, .slice a1 l1 c1, .int .i64 cl, .slice P pl.length cP, .slice a4 l4 c4, .slice a5 l5 c5, .slice a6 l6 c6, .slice a7 l7 c7, .slice a8 l8 c8, .slice a9 l9 c9, .int .i64 er], .int .i64 i] wx (SomeB wx)) := fun i hi wx h => rightPlace_any ⟨nm, a1, l1, c1, cl, P, cP, a4, l4, c4, a5, l5, c5, a6, l6, c6, a7, l7, c7, a8, l8, c8, a9, l9, c9, er⟩ pl i wx (hX.up h) hi
  have KRL : Hid (∀ (i : Nat) (_ : i < l4) (wx : World), Below w.heap.size w wx → Calls Try.prog 35 #[.agg #[.string nm, .slice a1 l1 c1, .int .i64 cl, .slice P pl.length cP, .slice a4 l4 c4, .slice a5 l5 c5, .slice a6 l6 c6, .slice a7 l7 c7, .slice a8 l8 c8, .slice a9 l9 c9, .int .i64 er], .int .i64 i] wx (SomeB wx)) := fun i hi wx h => rightLink_any ⟨nm, a1, l1, c1, cl, P, cP, a4, l4, c4, a5, l5, c5, a6, l6, c6, a7, l7, c7, a8, l8, c8, a9, l9, c9, er⟩ pl i wx (hX.up h) hi
  have KSL : Hid (∀ (i : Nat) (_ : i < pl.length) (wx : World), Below w.heap.size w wx → Calls Try.prog 36 #[.agg #[.string nm, .slice a1 l1 c1, .int .i64 cl, .slice P pl.length cP, .slice a4 l4 c4, .slice a5 l5 c5, .slice a6 l6 c6, .slice a7 l7 c7, .slice a8 l8 c8, .slice a9 l9 c9, .int .i64 er], .int .i64 i] wx (SomeI wx)) := fun i hi wx h => sloped_any ⟨nm, a1, l1, c1, cl, P, cP, a4, l4, c4, a5, l5, c5, a6, l6, c6, a7, l7, c7, a8, l8, c8, a9, l9, c9, er⟩ pl i wx (hX.up h) hi
  have KTX := Lib.hid (fun wx => text_any nm wx hnm)
  have KI := Lib.hid (fun n lo hi wx => in_any n lo hi wx)
  have KV := Lib.hid (fun n wx => vol_any n wx)
  have KAD := Lib.hid (fun a b wx => add_any a b wx)
  clear hX KN0 KP0
  have hB0 : Below w.heap.size w (w.alloc (.cells (#[.string nm, .slice a1 l1 c1, .int .i64 cl, .slice P pl.length cP, .slice a4 l4 c4, .slice a5 l5 c5, .slice a6 l6 c6, .slice a7 l7 c7, .slice a8 l8 c8, .slice a9 l9 c9, .int .i64 er]) 31)) := (Below.refl _ _).alloc (Nat.le_refl _) _
  have hX0 : Box (w.alloc (.cells (#[.string nm, .slice a1 l1 c1, .int .i64 cl, .slice P pl.length cP, .slice a4 l4 c4, .slice a5 l5 c5, .slice a6 l6 c6, .slice a7 l7 c7, .slice a8 l8 c8, .slice a9 l9 c9, .int .i64 er]) 31)) w.heap.size (#[.string nm, .slice a1 l1 c1, .int .i64 cl, .slice P pl.length cP, .slice a4 l4 c4, .slice a5 l5 c5, .slice a6 l6 c6, .slice a7 l7 c7, .slice a8 l8 c8, .slice a9 l9 c9, .int .i64 er]) 31 := Box.new w _ _
  go_enter Try.func20, Try.ntmps20
  go_upto_region 1 with fail
  generalize (w.alloc (.cells (#[.string nm, .slice a1 l1 c1, .int .i64 cl, .slice P pl.length cP, .slice a4 l4 c4, .slice a5 l5 c5, .slice a6 l6 c6, .slice a7 l7 c7, .slice a8 l8 c8, .slice a9 l9 c9, .int .i64 er]) 31)) = w0 at hB0 hX0 ⊢
  have x0 : w0.cell? ⟨w.heap.size, 0, none⟩ = some (.string nm) := hX0.cell rfl
  have x1 : w0.cell? ⟨w.heap.size, 1, none⟩ = some (.slice a1 l1 c1) := hX0.cell rfl
  have x2 : w0.cell? ⟨w.heap.size, 2, none⟩ = some (.int .i64 cl) := hX0.cell rfl
  have x3 : w0.cell? ⟨w.heap.size, 3, none⟩ = some (.slice P pl.length cP) := hX0.cell rfl
  have x4 : w0.cell? ⟨w.heap.size, 4, none⟩ = some (.slice a4 l4 c4) := hX0.cell rfl
  have x5 : w0.cell? ⟨w.heap.size, 5, none⟩ = some (.slice a5 l5 c5) := hX0.cell rfl
  have x6 : w0.cell? ⟨w.heap.size, 6, none⟩ = some (.slice a6 l6 c6) := hX0.cell rfl
  have x7 : w0.cell? ⟨w.heap.size, 7, none⟩ = some (.slice a7 l7 c7) := hX0.cell rfl
  have x8 : w0.cell? ⟨w.heap.size, 8, none⟩ = some (.slice a8 l8 c8) := hX0.cell rfl
  have x9 : w0.cell? ⟨w.heap.size, 9, none⟩ = some (.slice a9 l9 c9) := hX0.cell rfl
  have x10 : w0.cell? ⟨w.heap.size, 10, none⟩ = some (.int .i64 er) := hX0.cell rfl
  go_wp2_with fail
  go_at_call 28
  (with_reducible refine (KSZ.out w0 hB0).mono ?_)
  rintro e1 w1 ⟨b, rfl, hb1, h1⟩
  have hX1 := hX0.below hb1 hX0.lt
  have hB1 := hB0.trans (hb1.mono hB0.size)
  clear hX0 hB0 hb1
  clear x0 x1 x2 x3 x4 x5 x6 x7 x8 x9 x10
  cases b
  · go_wp2_with fail
    go_ret
    exact ⟨false, rfl, hB1⟩
  · have h9 : l9 = 3 := (h1 rfl).1
    have h78 := Lib.hid (h1 rfl).2
    clear h1
    obtain ⟨br, offr, z0, e9, hbr, r0⟩ := int_at HO.out.roo (show 0 < l9 by omega)
    obtain ⟨_, _, z1, e9', _, r1⟩ := int_at HO.out.roo (show 1 < l9 by omega)
    obtain ⟨_, _, z2, e9'', _, r2⟩ := int_at HO.out.roo (show 2 < l9 by omega)
    dsimp only at e9 e9' e9''
    subst e9
    (injection e9' with e9'; injection e9' with eb eo; subst eb eo)
    (injection e9'' with e9''; injection e9'' with eb eo; subst eb eo)
    have H9 := Lib.hid h9
    have hl0 : 0 < l9 := by omega
    have hl1 : 1 < l9 := by omega
    have hl2 : 2 < l9 := by omega
    clear h9
    have x0 : w1.cell? ⟨w.heap.size, 0, none⟩ = some (.string nm) := hX1.cell rfl
    have x1 : w1.cell? ⟨w.heap.size, 1, none⟩ = some (.slice a1 l1 c1) := hX1.cell rfl
    have x2 : w1.cell? ⟨w.heap.size, 2, none⟩ = some (.int .i64 cl) := hX1.cell rfl
    have x3 : w1.cell? ⟨w.heap.size, 3, none⟩ = some (.slice P pl.length cP) := hX1.cell rfl
    have x4 : w1.cell? ⟨w.heap.size, 4, none⟩ = some (.slice a4 l4 c4) := hX1.cell rfl
    have x5 : w1.cell? ⟨w.heap.size, 5, none⟩ = some (.slice a5 l5 c5) := hX1.cell rfl
    have x6 : w1.cell? ⟨w.heap.size, 6, none⟩ = some (.slice a6 l6 c6) := hX1.cell rfl
    have x7 : w1.cell? ⟨w.heap.size, 7, none⟩ = some (.slice a7 l7 c7) := hX1.cell rfl
    have x8 : w1.cell? ⟨w.heap.size, 8, none⟩ = some (.slice a8 l8 c8) := hX1.cell rfl
    have x9 : w1.cell? ⟨w.heap.size, 9, none⟩ = some (.slice (some ⟨br, offr, none⟩) l9 c9) := hX1.cell rfl
    have x10 : w1.cell? ⟨w.heap.size, 10, none⟩ = some (.int .i64 er) := hX1.cell rfl
    go_wp2_with fail
    go_at_call 29
    (with_reducible refine (KTX.out _).mono ?_)
    rintro e2 w2 ⟨b, rfl, rfl⟩
    cases b
    · go_wp2_with fail
      go_ret
      exact ⟨false, rfl, hB1⟩
    · go_wp2_with fail
      go_at_call 30
      (with_reducible refine (KNA.out h78.out _ hB1).mono ?_)
      rintro e3 w3 ⟨b, rfl, hb3⟩
      have hX := hX1.below hb3 hX1.lt
      have hB := hB1.trans (hb3.mono hB1.size)
      clear x0 x1 x2 x3 x4 x5 x6 x7 x8 x9 x10
      clear hX1 hB1 hb3
      cases b
      · go_wp2_with fail
        go_ret
        exact ⟨false, rfl, hB⟩
      · skip
        have x0 : w3.cell? ⟨w.heap.size, 0, none⟩ = some (.string nm) := hX.cell rfl
        have x1 : w3.cell? ⟨w.heap.size, 1, none⟩ = some (.slice a1 l1 c1) := hX.cell rfl
        have x2 : w3.cell? ⟨w.heap.size, 2, none⟩ = some (.int .i64 cl) := hX.cell rfl
        have x3 : w3.cell? ⟨w.heap.size, 3, none⟩ = some (.slice P pl.length cP) := hX.cell rfl
        have x4 : w3.cell? ⟨w.heap.size, 4, none⟩ = some (.slice a4 l4 c4) := hX.cell rfl
        have x5 : w3.cell? ⟨w.heap.size, 5, none⟩ = some (.slice a5 l5 c5) := hX.cell rfl
        have x6 : w3.cell? ⟨w.heap.size, 6, none⟩ = some (.slice a6 l6 c6) := hX.cell rfl
        have x7 : w3.cell? ⟨w.heap.size, 7, none⟩ = some (.slice a7 l7 c7) := hX.cell rfl
        have x8 : w3.cell? ⟨w.heap.size, 8, none⟩ = some (.slice a8 l8 c8) := hX.cell rfl
        have x9 : w3.cell? ⟨w.heap.size, 9, none⟩ = some (.slice (some ⟨br, offr, none⟩) l9 c9) := hX.cell rfl
        have x10 : w3.cell? ⟨w.heap.size, 10, none⟩ = some (.int .i64 er) := hX.cell rfl
        have v0 : w3.cell? ⟨br, offr, none⟩ = some (.int .i64 z0) := (hB.cell (p := ⟨br, offr, none⟩) hbr).trans (by simpa using r0)
        have v1 : w3.cell? ⟨br, offr + 1, none⟩ = some (.int .i64 z1) := (hB.cell (p := ⟨br, offr + 1, none⟩) hbr).trans r1
        have v2 : w3.cell? ⟨br, offr + 2, none⟩ = some (.int .i64 z2) := (hB.cell (p := ⟨br, offr + 2, none⟩) hbr).trans r2
        go_wp2_with fail
        go_at_call 31
        (with_reducible refine (KI.out _ _ _ _).mono ?_)
        rintro e5 w5 ⟨b, rfl, rfl, _⟩
        cases b
        · go_wp2_with fail
          go_ret
          exact ⟨false, rfl, hB⟩
        · go_wp2_with fail
          go_at_call 32
          (with_reducible refine (KV.out _ _).mono ?_)
          rintro e5 w5 ⟨b, rfl, rfl⟩
          cases b
          · go_wp2_with fail
            go_ret
            exact ⟨false, rfl, hB⟩
          · go_wp2_with fail
            go_at_call 32
            (with_reducible refine (KV.out _ _).mono ?_)
            rintro e5 w5 ⟨b, rfl, rfl⟩
            cases b
            · go_wp2_with fail
              go_ret
              exact ⟨false, rfl, hB⟩
            · go_wp2_with fail
              go_at_call 32
              (with_reducible refine (KV.out _ _).mono ?_)
              rintro e5 w5 ⟨b, rfl, rfl⟩
              cases b
              · go_wp2_with fail
                go_ret
                exact ⟨false, rfl, hB⟩
              · go_wp2_with fail
                go_loopw [3, 4] (fun tv iv wr => ∃ (tot : Int) (i : Nat), i ≤ pl.length ∧ iv = .int .i64 i ∧ tv = .int .i64 tot ∧ Box wr w.heap.size (#[.string nm, .slice a1 l1 c1, .int .i64 cl, .slice P pl.length cP, .slice a4 l4 c4, .slice a5 l5 c5, .slice a6 l6 c6, .slice a7 l7 c7, .slice a8 l8 c8, .slice (some ⟨br, offr, none⟩) l9 c9, .int .i64 er]) 31 ∧ Below w.heap.size w wr) (fun _ iv _ => pl.length - (intOf iv).toNat)
                case atStart => exact ⟨0, 0, Nat.zero_le _, rfl, rfl, hX, hB⟩
                case round =>
                  clear hX hB
                  obtain ⟨tot, i, hi, rfl, rfl, hX, hB⟩ := hrel
                  by_cases hlt : i < pl.length
                  · obtain ⟨bq, offq, p, ecq, hbq, hpo, _, _, _, _, _, q5, _⟩ := Pv.at_ HO.out.pla hlt
                    dsimp only at ecq
                    subst ecq
                    have hsl := hpo.2.1.1
                    have HPo := Lib.hid hpo
                    clear hpo
                    have x0 : wr.cell? ⟨w.heap.size, 0, none⟩ = some (.string nm) := hX.cell rfl
                    have x1 : wr.cell? ⟨w.heap.size, 1, none⟩ = some (.slice a1 l1 c1) := hX.cell rfl
                    have x2 : wr.cell? ⟨w.heap.size, 2, none⟩ = some (.int .i64 cl) := hX.cell rfl
                    have x3 : wr.cell? ⟨w.heap.size, 3, none⟩ = some (.slice (some ⟨bq, offq, none⟩) pl.length cP) := hX.cell rfl
                    have x4 : wr.cell? ⟨w.heap.size, 4, none⟩ = some (.slice a4 l4 c4) := hX.cell rfl
                    have x5 : wr.cell? ⟨w.heap.size, 5, none⟩ = some (.slice a5 l5 c5) := hX.cell rfl
                    have x6 : wr.cell? ⟨w.heap.size, 6, none⟩ = some (.slice a6 l6 c6) := hX.cell rfl
                    have x7 : wr.cell? ⟨w.heap.size, 7, none⟩ = some (.slice a7 l7 c7) := hX.cell rfl
                    have x8 : wr.cell? ⟨w.heap.size, 8, none⟩ = some (.slice a8 l8 c8) := hX.cell rfl
                    have x9 : wr.cell? ⟨w.heap.size, 9, none⟩ = some (.slice (some ⟨br, offr, none⟩) l9 c9) := hX.cell rfl
                    have x10 : wr.cell? ⟨w.heap.size, 10, none⟩ = some (.int .i64 er) := hX.cell rfl
                    go_wp2_with fail
                    go_at_call 33
                    (with_reducible refine (KRP.out i hlt _ hB).mono ?_)
                    rintro e9 w9 ⟨b, rfl, hb9⟩
                    have hX9 := hX.below hb9 hX.lt
                    have hB9 := hB.trans (hb9.mono hB.size)
                    clear x0 x1 x2 x3 x4 x5 x6 x7 x8 x9 x10
                    cases b
                    · go_wp2_with fail
                      go_ret
                      exact ⟨false, rfl, hB9⟩
                    · go_wp2_with fail
                      go_loopw [3, 5] (fun tv kv wr => ∃ (tot : Int) (k : Nat), k ≤ p.lst ∧ kv = .int .i64 k ∧ tv = .int .i64 tot ∧ Box wr w.heap.size (#[.string nm, .slice a1 l1 c1, .int .i64 cl, .slice (some ⟨bq, offq, none⟩) pl.length cP, .slice a4 l4 c4, .slice a5 l5 c5, .slice a6 l6 c6, .slice a7 l7 c7, .slice a8 l8 c8, .slice (some ⟨br, offr, none⟩) l9 c9, .int .i64 er]) 31 ∧ Below w.heap.size w wr) (fun _ kv _ => p.lst - (intOf kv).toNat)
                      case atStart => exact ⟨_, 0, Nat.zero_le _, rfl, rfl, hX9, hB9⟩
                      case round =>
                        clear hX9 hB9 hX hB
                        obtain ⟨tot, k, hk, rfl, rfl, hX, hB⟩ := hrel
                        have x3 : wr.cell? ⟨w.heap.size, 3, none⟩ = some (.slice (some ⟨bq, offq, none⟩) pl.length cP) := hX.cell rfl
                        have c5 : wr.cell? ⟨bq, offq + i * 12 + 5, none⟩ = some (.slice p.ast p.lst p.cst) := (hB.cell (p := ⟨bq, offq + i * 12 + 5, none⟩) hbq).trans q5
                        have hbqw : bq < wr.heap.size := by have := hB.size; omega
                        have hwzr := hX.lt
                        by_cases hlk : k < p.lst
                        · obtain ⟨bs, os, z, es, hbs, cs⟩ := int_at ((HPo.out.below hB).2.1) hlk
                          rw [es] at c5
                          have Hes := Lib.hid es
                          clear es
                          go_wp2_with (first | (go_at_call 34; (with_reducible refine (KAD.out _ _ _).mono ?_); rintro e7 w7 ⟨n7, rfl, rfl⟩) | fail)
                          go_roundw
                          case rel => exact ⟨_, k + 1, by omega, by go_num, rfl, hX, hB⟩
                          case measure => simp [intOf]; omega
                        · obtain rfl : p.lst = k := by omega
                          go_wp2_with fail
                          go_roundw
                          case rel => exact ⟨_, i + 1, by omega, by go_num, rfl, hX, hB⟩
                          case measure => simp [intOf]; omega
                  · obtain rfl : pl.length = i := by omega
                    clear hlt hi
                    have x3 : wr.cell? ⟨w.heap.size, 3, none⟩ = some (.slice P pl.length cP) := hX.cell rfl
                    go_wp2_with fail
                    go_loopw [6] (fun iv wr => ∃ i : Nat, i ≤ l4 ∧ iv = .int .i64 i ∧ Box wr w.heap.size (#[.string nm, .slice a1 l1 c1, .int .i64 cl, .slice P pl.length cP, .slice a4 l4 c4, .slice a5 l5 c5, .slice a6 l6 c6, .slice a7 l7 c7, .slice a8 l8 c8, .slice (some ⟨br, offr, none⟩) l9 c9, .int .i64 er]) 31 ∧ Below w.heap.size w wr) (fun iv _ => l4 - (intOf iv).toNat)
                    case atStart => exact ⟨0, Nat.zero_le _, rfl, hX, hB⟩
                    case round =>
                      clear hX hB
                      obtain ⟨i, hi, rfl, hX, hB⟩ := hrel
                      have x0 : wr.cell? ⟨w.heap.size, 0, none⟩ = some (.string nm) := hX.cell rfl
                      have x1 : wr.cell? ⟨w.heap.size, 1, none⟩ = some (.slice a1 l1 c1) := hX.cell rfl
                      have x2 : wr.cell? ⟨w.heap.size, 2, none⟩ = some (.int .i64 cl) := hX.cell rfl
                      have x3 : wr.cell? ⟨w.heap.size, 3, none⟩ = some (.slice P pl.length cP) := hX.cell rfl
                      have x4 : wr.cell? ⟨w.heap.size, 4, none⟩ = some (.slice a4 l4 c4) := hX.cell rfl
                      have x5 : wr.cell? ⟨w.heap.size, 5, none⟩ = some (.slice a5 l5 c5) := hX.cell rfl
                      have x6 : wr.cell? ⟨w.heap.size, 6, none⟩ = some (.slice a6 l6 c6) := hX.cell rfl
                      have x7 : wr.cell? ⟨w.heap.size, 7, none⟩ = some (.slice a7 l7 c7) := hX.cell rfl
                      have x8 : wr.cell? ⟨w.heap.size, 8, none⟩ = some (.slice a8 l8 c8) := hX.cell rfl
                      have x9 : wr.cell? ⟨w.heap.size, 9, none⟩ = some (.slice (some ⟨br, offr, none⟩) l9 c9) := hX.cell rfl
                      have x10 : wr.cell? ⟨w.heap.size, 10, none⟩ = some (.int .i64 er) := hX.cell rfl
                      by_cases hlt : i < l4
                      · go_wp2_with fail
                        go_at_call 35
                        (with_reducible refine (KRL.out i hlt _ hB).mono ?_)
                        rintro e9 w9 ⟨b, rfl, hb9⟩
                        have hX9 := hX.below hb9 hX.lt
                        have hB9 := hB.trans (hb9.mono hB.size)
                        clear x0 x1 x2 x3 x4 x5 x6 x7 x8 x9 x10
                        cases b
                        · go_wp2_with fail
                          go_ret
                          exact ⟨false, rfl, hB9⟩
                        · go_wp2_with fail
                          go_roundw
                          case rel => exact ⟨i + 1, by omega, by go_num, hX9, hB9⟩
                          case measure => simp [intOf]; omega
                      · obtain rfl : l4 = i := by omega
                        clear hlt hi
                        go_wp2_with fail
                        go_loopw [7] (fun iv wr => ∃ i : Nat, i ≤ pl.length ∧ iv = .int .i64 i ∧ Box wr w.heap.size (#[.string nm, .slice a1 l1 c1, .int .i64 cl, .slice P pl.length cP, .slice a4 l4 c4, .slice a5 l5 c5, .slice a6 l6 c6, .slice a7 l7 c7, .slice a8 l8 c8, .slice (some ⟨br, offr, none⟩) l9 c9, .int .i64 er]) 31 ∧ Below w.heap.size w wr) (fun iv _ => pl.length - (intOf iv).toNat)
                        case atStart => exact ⟨0, Nat.zero_le _, rfl, hX, hB⟩
                        case round =>
                          clear hX hB x0 x1 x2 x3 x4 x5 x6 x7 x8 x9 x10
                          obtain ⟨i, hi, rfl, hX, hB⟩ := hrel
                          have x0 : wr.cell? ⟨w.heap.size, 0, none⟩ = some (.string nm) := hX.cell rfl
                          have x1 : wr.cell? ⟨w.heap.size, 1, none⟩ = some (.slice a1 l1 c1) := hX.cell rfl
                          have x2 : wr.cell? ⟨w.heap.size, 2, none⟩ = some (.int .i64 cl) := hX.cell rfl
                          have x3 : wr.cell? ⟨w.heap.size, 3, none⟩ = some (.slice P pl.length cP) := hX.cell rfl
                          have x4 : wr.cell? ⟨w.heap.size, 4, none⟩ = some (.slice a4 l4 c4) := hX.cell rfl
                          have x5 : wr.cell? ⟨w.heap.size, 5, none⟩ = some (.slice a5 l5 c5) := hX.cell rfl
                          have x6 : wr.cell? ⟨w.heap.size, 6, none⟩ = some (.slice a6 l6 c6) := hX.cell rfl
                          have x7 : wr.cell? ⟨w.heap.size, 7, none⟩ = some (.slice a7 l7 c7) := hX.cell rfl
                          have x8 : wr.cell? ⟨w.heap.size, 8, none⟩ = some (.slice a8 l8 c8) := hX.cell rfl
                          have x9 : wr.cell? ⟨w.heap.size, 9, none⟩ = some (.slice (some ⟨br, offr, none⟩) l9 c9) := hX.cell rfl
                          have x10 : wr.cell? ⟨w.heap.size, 10, none⟩ = some (.int .i64 er) := hX.cell rfl
                          by_cases hlt : i < pl.length
                          · go_wp2_with fail
                            go_at_call 36
                            (with_reducible refine (KSL.out i hlt _ hB).mono ?_)
                            rintro e9 w9 ⟨n9, rfl, hb9⟩
                            have hX9 := hX.below hb9 hX.lt
                            have hB9 := hB.trans (hb9.mono hB.size)
                            clear x0 x1 x2 x3 x4 x5 x6 x7 x8 x9 x10
                            by_cases hn : 1099511627776 < n9
                            · have e8 : decide (1099511627776 < n9) = true := decide_eq_true hn
                              go_wp2_with fail
                              go_ret
                              exact ⟨false, rfl, hB9⟩
                            · have e8 : decide (1099511627776 < n9) = false := decide_eq_false hn
                              go_wp2_with fail
                              go_roundw
                              case rel => exact ⟨i + 1, by omega, by go_num, hX9, hB9⟩
                              case measure => simp [intOf]; omega
                          · obtain rfl : pl.length = i := by omega
                            clear hlt hi
                            by_cases ht : tot ≤ 1125899906842624
                            · have e9 : decide (tot ≤ 1125899906842624) = true := decide_eq_true ht
                              go_wp2_with fail
                              go_at_call 37
                              (with_reducible refine (KPE.out _ hB).mono ?_)
                              rintro e9 w9 ⟨b, rfl, hb9⟩
                              go_wp2_with fail
                              all_goals
                                go_ret
                                exact ⟨_, rfl, hB.trans (hb9.mono hB.size)⟩
                            · have e9 : decide (tot ≤ 1125899906842624) = false := decide_eq_false ht
                              go_wp2_with fail
                              go_ret
                              exact ⟨false, rfl, hB⟩
end Go.Proofs.Ythoigjkelinjhaa.RT
