/- The walk of fields. (Printed by gen_g6.py.) -/
import Derived.Test.YthoigjkelinjhaaG6
set_option linter.unusedSimpArgs false
set_option linter.unusedVariables false
namespace Go.Proofs.Ythoigjkelinjhaa.RT
open Go.RowKit BV
attribute [local go_sem] alloc_drewN setCell_drewN shape_drewN
set_option maxRecDepth 100000 in
set_option maxHeartbeats 8000000 in
theorem fields_any (p : Lk) (w : World) (hp : p.ok w w.heap.size) : Calls Try.prog 49 #[.agg p.cells.toArray] w (SomeB w) := by
  have hB0 : Below w.heap.size w (w.alloc (.cells p.cells.toArray 108)) := (Below.refl _ _).alloc (Nat.le_refl _) _
  have hX0 : Box (w.alloc (.cells p.cells.toArray 108)) w.heap.size p.cells.toArray 108 := Box.new w _ _
  obtain ⟨_, fs, hu, _⟩ := fieldsLk
  have HU := Lib.hid hu
  have HP := Lib.hid hp
  have KB := Lib.hid (fun wx => bare_any p wx)
  have KD := Lib.hid (fun wx (h : Below w.heap.size w wx) => banded_any p wx (hp.up h))
  have KF := Lib.hid (fun n d z wx => fraction_any n d z wx)
  have KI := Lib.hid (fun n lo hi wx => in_any n lo hi wx)
  have KV := Lib.hid (fun n wx => vol_any n wx)
  unfold BareIs at KB
  clear hp hu
  go_enter Try.func49, Try.ntmps49
  go_upto_region 1 with fail
  generalize (w.alloc (.cells p.cells.toArray 108)) = w0 at hB0 hX0 ⊢
  have z0 := hX0.lt
  have HX := Lib.hid hX0
  clear hX0
  go_wp2_with (first | (refine wpList_load_mid (by rfl) 108 _ (by rfl) w.heap.size 0 (by rfl) p.cells _ HX.out.range HU.out rfl (lkInfo p) ?_) | fail)
  go_at_call 56
  (with_reducible refine (KB.out w0).mono ?_)
  rintro e1 w1 ⟨rfl, hb1⟩
  have hX1 := HX.out.below hb1 z0
  have hB1 := hB0.trans (hb1.mono hB0.size)
  have hY2 : Box (w1.alloc (.cells (#[.string ⟨#[]⟩, .int .i64 0, .int .i64 0, .int .i64 0, .slice none 0 0, .slice none 0 0, .slice none 0 0, .int .i64 0, .int .i64 0, .int .i64 0, .int .i64 0, .int .i64 0, .int .i64 0, .int .i64 0, .int .i64 0, .int .i64 0, .int .i64 0, .int .i64 0]) 108)) w1.heap.size (#[.string ⟨#[]⟩, .int .i64 0, .int .i64 0, .int .i64 0, .slice none 0 0, .slice none 0 0, .slice none 0 0, .int .i64 0, .int .i64 0, .int .i64 0, .int .i64 0, .int .i64 0, .int .i64 0, .int .i64 0, .int .i64 0, .int .i64 0, .int .i64 0, .int .i64 0]) 108 := Box.new _ _ _
  have hX2 : Box (w1.alloc (.cells (#[.string ⟨#[]⟩, .int .i64 0, .int .i64 0, .int .i64 0, .slice none 0 0, .slice none 0 0, .slice none 0 0, .int .i64 0, .int .i64 0, .int .i64 0, .int .i64 0, .int .i64 0, .int .i64 0, .int .i64 0, .int .i64 0, .int .i64 0, .int .i64 0, .int .i64 0]) 108)) w.heap.size p.cells.toArray 108 := hX1.keep (Below.heap_alloc _ _ _ hX1.lt)
  have hB2 : Below w.heap.size w (w1.alloc (.cells (#[.string ⟨#[]⟩, .int .i64 0, .int .i64 0, .int .i64 0, .slice none 0 0, .slice none 0 0, .slice none 0 0, .int .i64 0, .int .i64 0, .int .i64 0, .int .i64 0, .int .i64 0, .int .i64 0, .int .i64 0, .int .i64 0, .int .i64 0, .int .i64 0, .int .i64 0]) 108)) := hB1.alloc hB1.size _
  have hne : w.heap.size ≠ w1.heap.size := by have := hX1.lt; omega
  have hlt : w.heap.size < w1.heap.size := by have := hX1.lt; omega
  have Hth := Lib.hid (hY2.there (n := (bareL p).cells.toArray.size) rfl)
  have hY3 := hY2.all (bareL p).cells.toArray.toList rfl
  have hX3 : Box ((w1.alloc (.cells (#[.string ⟨#[]⟩, .int .i64 0, .int .i64 0, .int .i64 0, .slice none 0 0, .slice none 0 0, .slice none 0 0, .int .i64 0, .int .i64 0, .int .i64 0, .int .i64 0, .int .i64 0, .int .i64 0, .int .i64 0, .int .i64 0, .int .i64 0, .int .i64 0, .int .i64 0]) 108)).setCells w1.heap.size 0 (bareL p).cells.toArray.toList) w.heap.size p.cells.toArray 108 := hX2.keep (heap_all hne _ _ _)
  have hB3 := below_all hB2 (show w.heap.size ≤ w1.heap.size by omega) (bareL p).cells.toArray.toList 0
  have HX3 := Lib.hid hX3
  have HY3 := Lib.hid hY3
  clear hX1 hX2 hY2 hX3 hY3 HX hb1 hB1 hB2
  go_upto_region 2 with (first | (refine wpList_store_mid (by rfl) 108 _ _ (by rfl) w1.heap.size 0 (bareL p).cells.toArray (by rfl) (by rfl) Hth.out (by simpa using lkInfo (bareL p)) (lkOne (bareL p)) ?_) | fail)
  generalize ((w1.alloc (.cells (#[.string ⟨#[]⟩, .int .i64 0, .int .i64 0, .int .i64 0, .slice none 0 0, .slice none 0 0, .slice none 0 0, .int .i64 0, .int .i64 0, .int .i64 0, .int .i64 0, .int .i64 0, .int .i64 0, .int .i64 0, .int .i64 0, .int .i64 0, .int .i64 0, .int .i64 0]) 108)).setCells w1.heap.size 0 (bareL p).cells) = W2 at HX3 HY3 hB3 ⊢
  clear Hth
  generalize w1.heap.size = b3 at HX3 HY3 hne hlt ⊢
  have hX := HX3.out
  have hY : Box W2 b3 (Lk.cells (bareL p)).toArray 108 := HY3.out
  have hB := hB3
  clear HX3 HY3 hB3 hB0 z0
  have x11 : W2.cell? ⟨w.heap.size, 11, none⟩ = some (.int .i64 p.num) := hX.cell rfl
  have x12 : W2.cell? ⟨w.heap.size, 12, none⟩ = some (.int .i64 p.den) := hX.cell rfl
  obtain ⟨v11, y11⟩ : ∃ v, W2.cell? ⟨b3, 11, none⟩ = some v := Option.isSome_iff_exists.1 (isSome_box hY 11 (by show 11 < 18; omega))
  have u11 := hY.free 11
  obtain ⟨v12, y12⟩ : ∃ v, W2.cell? ⟨b3, 12, none⟩ = some v := Option.isSome_iff_exists.1 (isSome_box hY 12 (by show 12 < 18; omega))
  have u12 := hY.free 12
  go_upto_region 5 with (first | (go_at_call 45; (with_reducible refine (KF.out _ _ _ _).mono ?_); rintro e5 w5 ⟨b4, rfl, rfl⟩) | fail)
  have hX0 := hX.aside 11 (.int .i64 p.num) hne
  have hY0 := hY.set 11 (.int .i64 p.num)
  have hB0 := hB.setCell (p := ⟨b3, 11, none⟩) (by show w.heap.size ≤ b3; omega) (.int .i64 p.num)
  have hX1 := hX0.aside 12 (.int .i64 p.den) hne
  have hY1 := hY0.set 12 (.int .i64 p.den)
  have hB1 := hB0.setCell (p := ⟨b3, 12, none⟩) (by show w.heap.size ≤ b3; omega) (.int .i64 p.den)
  generalize ((W2.setCell ⟨b3, 11, none⟩ (.int .i64 p.num)).setCell ⟨b3, 12, none⟩ (.int .i64 p.den)) = W4 at hX1 hY1 hB1 ⊢
  clear hX hY hB hX0 hY0 hB0
  have hX := hX1
  have hB := hB1
  have hY : Box W4 b3 (Lk.cells ({ bareL p with num := p.num, den := p.den })).toArray 108 := hY1
  clear hX1 hY1 hB1
  by_cases hk0 : p.kind = 0
  · have k0 : (p.kind == 0) = true := by simp [hk0]
    clear hk0
    have x1 : W4.cell? ⟨w.heap.size, 1, none⟩ = some (.int .i64 p.kind) := hX.cell rfl
    have HX := Lib.hid hX
    have Hth := Lib.hid (hY.there (n := p.cells.toArray.size) rfl)
    have hY2 := hY.all p.cells.toArray.toList rfl
    have hX2 := hX.keep (heap_all hne p.cells.toArray.toList 0 W4)
    have hB2 := below_all hB (show w.heap.size ≤ b3 by omega) p.cells.toArray.toList 0
    have HX2 := Lib.hid hX2
    have HY2 := Lib.hid hY2
    clear hX hY hX2 hY2
    go_upto_region 9 with (first | (refine wpList_load_mid (by rfl) 108 _ (by rfl) w.heap.size 0 (by rfl) p.cells _ HX.out.range HU.out rfl (lkInfo p) ?_) | (refine wpList_store_mid (by rfl) 108 _ _ (by rfl) b3 0 p.cells.toArray (by rfl) (by rfl) Hth.out (by simpa using lkInfo p) (lkOne p) ?_) | fail)
    generalize W4.setCells b3 0 p.cells = W5 at HX2 HY2 hB2 ⊢
    clear HX hB x1
    have HX := HX2
    go_wp2_with (first | (refine wpList_load_mid (by rfl) 108 _ (by rfl) w.heap.size 0 (by rfl) p.cells _ HX.out.range HU.out rfl (lkInfo p) ?_) | fail)
    go_at_call 57
    (with_reducible refine (KD.out W5 hB2).mono ?_)
    rintro e6 w6 ⟨b, rfl, hb6⟩
    have hX := HX2.out.below hb6 HX2.out.lt
    have hY : Box w6 b3 (Lk.cells p).toArray 108 := HY2.out.below hb6 HY2.out.lt
    have hB := hB2.trans (hb6.mono hB2.size)
    clear HX HX2 HY2 hB2 hb6 Hth
    go_upto_region 10 with fail
    go_cut [4] from 26 to 61 (fun s4 wx => IsB s4 ∧ wx = w6)
    case first =>
      have x3 : w6.cell? ⟨w.heap.size, 3, none⟩ = some (.int .i64 p.to_) := hX.cell rfl
      have x7 : w6.cell? ⟨w.heap.size, 7, none⟩ = some (.int .i64 p.positions) := hX.cell rfl
      have x8 : w6.cell? ⟨w.heap.size, 8, none⟩ = some (.int .i64 p.speed) := hX.cell rfl
      have x9 : w6.cell? ⟨w.heap.size, 9, none⟩ = some (.int .i64 p.leak) := hX.cell rfl
      have x15 : w6.cell? ⟨w.heap.size, 15, none⟩ = some (.int .i64 p.bnum) := hX.cell rfl
      have x16 : w6.cell? ⟨w.heap.size, 16, none⟩ = some (.int .i64 p.bden) := hX.cell rfl
      cases b
      all_goals
        go_wp2_with (first | (go_at_call 31; (with_reducible refine (KI.out _ _ _ _).mono ?_); rintro e5 w5 ⟨b, rfl, rfl, _⟩; cases b) | (go_at_call 32; (with_reducible refine (KV.out _ _).mono ?_); rintro e5 w5 ⟨b, rfl, rfl⟩; cases b) | (go_at_call 45; (with_reducible refine (KF.out _ _ _ _).mono ?_); rintro e5 w5 ⟨b, rfl, rfl⟩; cases b) | fail)
        all_goals
          go_meet
          exact ⟨⟨_, rfl⟩, by first | rfl | trivial⟩
    case rest =>
      obtain ⟨⟨b4, rfl⟩, rfl⟩ := hcut
      obtain ⟨v10, y10⟩ : ∃ v, wc.cell? ⟨b3, 10, none⟩ = some v := Option.isSome_iff_exists.1 (isSome_box hY 10 (by show 10 < 18; omega))
      have u10 := hY.free 10
      obtain ⟨v11, y11⟩ : ∃ v, wc.cell? ⟨b3, 11, none⟩ = some v := Option.isSome_iff_exists.1 (isSome_box hY 11 (by show 11 < 18; omega))
      have u11 := hY.free 11
      obtain ⟨v12, y12⟩ : ∃ v, wc.cell? ⟨b3, 12, none⟩ = some v := Option.isSome_iff_exists.1 (isSome_box hY 12 (by show 12 < 18; omega))
      have u12 := hY.free 12
      obtain ⟨v13, y13⟩ : ∃ v, wc.cell? ⟨b3, 13, none⟩ = some v := Option.isSome_iff_exists.1 (isSome_box hY 13 (by show 13 < 18; omega))
      have u13 := hY.free 13
      obtain ⟨v14, y14⟩ : ∃ v, wc.cell? ⟨b3, 14, none⟩ = some v := Option.isSome_iff_exists.1 (isSome_box hY 14 (by show 14 < 18; omega))
      have u14 := hY.free 14
      go_upto_region 33 with fail
      have hX0 := hX.aside 10 (.int .i64 0) hne
      have hY0 := hY.set 10 (.int .i64 0)
      have hB0 := hB.setCell (p := ⟨b3, 10, none⟩) (by show w.heap.size ≤ b3; omega) (.int .i64 0)
      have hX1 := hX0.aside 11 (.int .i64 0) hne
      have hY1 := hY0.set 11 (.int .i64 0)
      have hB1 := hB0.setCell (p := ⟨b3, 11, none⟩) (by show w.heap.size ≤ b3; omega) (.int .i64 0)
      have hX2 := hX1.aside 12 (.int .i64 0) hne
      have hY2 := hY1.set 12 (.int .i64 0)
      have hB2 := hB1.setCell (p := ⟨b3, 12, none⟩) (by show w.heap.size ≤ b3; omega) (.int .i64 0)
      have hX3 := hX2.aside 13 (.int .i64 0) hne
      have hY3 := hY2.set 13 (.int .i64 0)
      have hB3 := hB2.setCell (p := ⟨b3, 13, none⟩) (by show w.heap.size ≤ b3; omega) (.int .i64 0)
      have hX4 := hX3.aside 14 (.int .i64 0) hne
      have hY4 := hY3.set 14 (.int .i64 0)
      have hB4 := hB3.setCell (p := ⟨b3, 14, none⟩) (by show w.heap.size ≤ b3; omega) (.int .i64 0)
      generalize (((((wc.setCell ⟨b3, 10, none⟩ (.int .i64 0)).setCell ⟨b3, 11, none⟩ (.int .i64 0)).setCell ⟨b3, 12, none⟩ (.int .i64 0)).setCell ⟨b3, 13, none⟩ (.int .i64 0)).setCell ⟨b3, 14, none⟩ (.int .i64 0)) = W7 at hX4 hY4 hB4 ⊢
      clear hX hY hB hX0 hY0 hB0 hX1 hY1 hB1 hX2 hY2 hB2 hX3 hY3 hB3
      have hX := hX4
      have hB := hB4
      have hY : Box W7 b3 (Lk.cells ({ p with crest := 0, num := 0, den := 0, prime := 0, brk := 0 })).toArray 108 := hY4
      clear hX4 hY4 hB4
      obtain ⟨q, hq⟩ : ∃ q : Lk, q = { p with crest := 0, num := 0, den := 0, prime := 0, brk := 0 } := ⟨_, rfl⟩
      have hqo : q.ok w w.heap.size := by rw [hq]; exact ⟨HP.out.1, HP.out.2.1, HP.out.2.2⟩
      rw [← hq] at hY
      have HX := Lib.hid hX
      have HY := Lib.hid hY
      have KS := Lib.hid (sameLink_any p q W7 (HP.out.up hB) (hqo.up hB))
      clear hX hY hqo hq
      cases b4
      all_goals
        go_wp2_with (first | (refine wpList_load_g (by rfl) 108 _ (by rfl) w.heap.size 0 (by rfl) p.cells _ HX.out.range HU.out rfl (lkInfo p) ?_) | (refine wpList_load_g (by rfl) 108 _ (by rfl) b3 0 (by rfl) q.cells _ HY.out.range HU.out rfl (lkInfo q) ?_) | (go_at_call 31; (with_reducible refine (KI.out _ _ _ _).mono ?_); rintro e5 w5 ⟨b, rfl, rfl, _⟩; cases b) | (go_at_call 32; (with_reducible refine (KV.out _ _).mono ?_); rintro e5 w5 ⟨b, rfl, rfl⟩; cases b) | (go_at_call 45; (with_reducible refine (KF.out _ _ _ _).mono ?_); rintro e5 w5 ⟨b, rfl, rfl⟩; cases b) | fail)
        all_goals first
          | (go_ret; exact ⟨_, rfl, hB⟩)
          | (go_at_call 58
             (with_reducible refine KS.out.mono ?_)
             rintro e9 w9 ⟨b, rfl, hb9⟩
             have hB9 := hB.trans (hb9.mono hB.size)
             go_wp2_with fail
             all_goals
               go_ret
               exact ⟨_, rfl, hB9⟩)
  · skip
    by_cases hk1 : p.kind = 1
    · have k1 : (p.kind == 1) = true := by simp [hk1]
      have k0 : (p.kind == 0) = false := by simp; omega
      clear hk0 hk1
      have x1 : W4.cell? ⟨w.heap.size, 1, none⟩ = some (.int .i64 p.kind) := hX.cell rfl
      have x10 : W4.cell? ⟨w.heap.size, 10, none⟩ = some (.int .i64 p.crest) := hX.cell rfl
      obtain ⟨v10, y10⟩ : ∃ v, W4.cell? ⟨b3, 10, none⟩ = some v := Option.isSome_iff_exists.1 (isSome_box hY 10 (by show 10 < 18; omega))
      have u10 := hY.free 10
      go_upto_region 19 with fail
      have hX0 := hX.aside 10 (.int .i64 p.crest) hne
      have hY0 := hY.set 10 (.int .i64 p.crest)
      have hB0 := hB.setCell (p := ⟨b3, 10, none⟩) (by show w.heap.size ≤ b3; omega) (.int .i64 p.crest)
      generalize (W4.setCell ⟨b3, 10, none⟩ (.int .i64 p.crest)) = W6 at hX0 hY0 hB0 ⊢
      clear hX hY hB
      have hX := hX0
      have hB := hB0
      have hY : Box W6 b3 (Lk.cells ({ bareL p with num := p.num, den := p.den, crest := p.crest })).toArray 108 := hY0
      clear hX0 hY0 hB0
      have x10 : W6.cell? ⟨w.heap.size, 10, none⟩ = some (.int .i64 p.crest) := hX.cell rfl
      obtain ⟨q, hq⟩ : ∃ q : Lk, q = { bareL p with num := p.num, den := p.den, crest := p.crest } := ⟨_, rfl⟩
      have hqo : q.ok w w.heap.size := by rw [hq]; exact ⟨nilSl, nilSl, nilSl⟩
      rw [← hq] at hY
      have HX := Lib.hid hX
      have HY := Lib.hid hY
      have KS := Lib.hid (sameLink_any p q W6 (HP.out.up hB) (hqo.up hB))
      clear hX hY hqo hq
      cases b4
      all_goals
        go_wp2_with (first | (refine wpList_load_g (by rfl) 108 _ (by rfl) w.heap.size 0 (by rfl) p.cells _ HX.out.range HU.out rfl (lkInfo p) ?_) | (refine wpList_load_g (by rfl) 108 _ (by rfl) b3 0 (by rfl) q.cells _ HY.out.range HU.out rfl (lkInfo q) ?_) | (go_at_call 31; (with_reducible refine (KI.out _ _ _ _).mono ?_); rintro e5 w5 ⟨b, rfl, rfl, _⟩; cases b) | (go_at_call 32; (with_reducible refine (KV.out _ _).mono ?_); rintro e5 w5 ⟨b, rfl, rfl⟩; cases b) | (go_at_call 45; (with_reducible refine (KF.out _ _ _ _).mono ?_); rintro e5 w5 ⟨b, rfl, rfl⟩; cases b) | fail)
        all_goals first
          | (go_ret; exact ⟨_, rfl, hB⟩)
          | (go_at_call 58
             (with_reducible refine KS.out.mono ?_)
             rintro e9 w9 ⟨b, rfl, hb9⟩
             have hB9 := hB.trans (hb9.mono hB.size)
             go_wp2_with fail
             all_goals
               go_ret
               exact ⟨_, rfl, hB9⟩)
    · skip
      by_cases hk5 : p.kind = 5
      · have k5 : (p.kind == 5) = true := by simp [hk5]
        have k0 : (p.kind == 0) = false := by simp; omega
        have k1 : (p.kind == 1) = false := by simp; omega
        clear hk0 hk1 hk5
        have x1 : W4.cell? ⟨w.heap.size, 1, none⟩ = some (.int .i64 p.kind) := hX.cell rfl
        have x10 : W4.cell? ⟨w.heap.size, 10, none⟩ = some (.int .i64 p.crest) := hX.cell rfl
        obtain ⟨v10, y10⟩ : ∃ v, W4.cell? ⟨b3, 10, none⟩ = some v := Option.isSome_iff_exists.1 (isSome_box hY 10 (by show 10 < 18; omega))
        have u10 := hY.free 10
        go_upto_region 19 with fail
        have hX0 := hX.aside 10 (.int .i64 p.crest) hne
        have hY0 := hY.set 10 (.int .i64 p.crest)
        have hB0 := hB.setCell (p := ⟨b3, 10, none⟩) (by show w.heap.size ≤ b3; omega) (.int .i64 p.crest)
        generalize (W4.setCell ⟨b3, 10, none⟩ (.int .i64 p.crest)) = W6 at hX0 hY0 hB0 ⊢
        clear hX hY hB
        have hX := hX0
        have hB := hB0
        have hY : Box W6 b3 (Lk.cells ({ bareL p with num := p.num, den := p.den, crest := p.crest })).toArray 108 := hY0
        clear hX0 hY0 hB0
        have x10 : W6.cell? ⟨w.heap.size, 10, none⟩ = some (.int .i64 p.crest) := hX.cell rfl
        obtain ⟨q, hq⟩ : ∃ q : Lk, q = { bareL p with num := p.num, den := p.den, crest := p.crest } := ⟨_, rfl⟩
        have hqo : q.ok w w.heap.size := by rw [hq]; exact ⟨nilSl, nilSl, nilSl⟩
        rw [← hq] at hY
        have HX := Lib.hid hX
        have HY := Lib.hid hY
        have KS := Lib.hid (sameLink_any p q W6 (HP.out.up hB) (hqo.up hB))
        clear hX hY hqo hq
        cases b4
        all_goals
          go_wp2_with (first | (refine wpList_load_g (by rfl) 108 _ (by rfl) w.heap.size 0 (by rfl) p.cells _ HX.out.range HU.out rfl (lkInfo p) ?_) | (refine wpList_load_g (by rfl) 108 _ (by rfl) b3 0 (by rfl) q.cells _ HY.out.range HU.out rfl (lkInfo q) ?_) | (go_at_call 31; (with_reducible refine (KI.out _ _ _ _).mono ?_); rintro e5 w5 ⟨b, rfl, rfl, _⟩; cases b) | (go_at_call 32; (with_reducible refine (KV.out _ _).mono ?_); rintro e5 w5 ⟨b, rfl, rfl⟩; cases b) | (go_at_call 45; (with_reducible refine (KF.out _ _ _ _).mono ?_); rintro e5 w5 ⟨b, rfl, rfl⟩; cases b) | fail)
          all_goals first
            | (go_ret; exact ⟨_, rfl, hB⟩)
            | (go_at_call 58
               (with_reducible refine KS.out.mono ?_)
               rintro e9 w9 ⟨b, rfl, hb9⟩
               have hB9 := hB.trans (hb9.mono hB.size)
               go_wp2_with fail
               all_goals
                 go_ret
                 exact ⟨_, rfl, hB9⟩)
      · skip
        by_cases hk2 : p.kind = 2
        · have k2 : (p.kind == 2) = true := by simp [hk2]
          have k0 : (p.kind == 0) = false := by simp; omega
          have k1 : (p.kind == 1) = false := by simp; omega
          have k5 : (p.kind == 5) = false := by simp; omega
          clear hk0 hk1 hk5 hk2
          have x1 : W4.cell? ⟨w.heap.size, 1, none⟩ = some (.int .i64 p.kind) := hX.cell rfl
          have x7 : W4.cell? ⟨w.heap.size, 7, none⟩ = some (.int .i64 p.positions) := hX.cell rfl
          have x8 : W4.cell? ⟨w.heap.size, 8, none⟩ = some (.int .i64 p.speed) := hX.cell rfl
          obtain ⟨v12, y12⟩ : ∃ v, W4.cell? ⟨b3, 12, none⟩ = some v := Option.isSome_iff_exists.1 (isSome_box hY 12 (by show 12 < 18; omega))
          have u12 := hY.free 12
          obtain ⟨v7, y7⟩ : ∃ v, W4.cell? ⟨b3, 7, none⟩ = some v := Option.isSome_iff_exists.1 (isSome_box hY 7 (by show 7 < 18; omega))
          have u7 := hY.free 7
          obtain ⟨v8, y8⟩ : ∃ v, W4.cell? ⟨b3, 8, none⟩ = some v := Option.isSome_iff_exists.1 (isSome_box hY 8 (by show 8 < 18; omega))
          have u8 := hY.free 8
          go_upto_region 24 with fail
          have hX0 := hX.aside 12 (.int .i64 0) hne
          have hY0 := hY.set 12 (.int .i64 0)
          have hB0 := hB.setCell (p := ⟨b3, 12, none⟩) (by show w.heap.size ≤ b3; omega) (.int .i64 0)
          have hX1 := hX0.aside 7 (.int .i64 p.positions) hne
          have hY1 := hY0.set 7 (.int .i64 p.positions)
          have hB1 := hB0.setCell (p := ⟨b3, 7, none⟩) (by show w.heap.size ≤ b3; omega) (.int .i64 p.positions)
          have hX2 := hX1.aside 8 (.int .i64 p.speed) hne
          have hY2 := hY1.set 8 (.int .i64 p.speed)
          have hB2 := hB1.setCell (p := ⟨b3, 8, none⟩) (by show w.heap.size ≤ b3; omega) (.int .i64 p.speed)
          generalize (((W4.setCell ⟨b3, 12, none⟩ (.int .i64 0)).setCell ⟨b3, 7, none⟩ (.int .i64 p.positions)).setCell ⟨b3, 8, none⟩ (.int .i64 p.speed)) = W6 at hX2 hY2 hB2 ⊢
          clear hX hY hB hX0 hY0 hB0 hX1 hY1 hB1
          have hX := hX2
          have hB := hB2
          have hY : Box W6 b3 (Lk.cells ({ bareL p with num := p.num, den := 0, positions := p.positions, speed := p.speed })).toArray 108 := hY2
          clear hX2 hY2 hB2
          have x7 : W6.cell? ⟨w.heap.size, 7, none⟩ = some (.int .i64 p.positions) := hX.cell rfl
          have x8 : W6.cell? ⟨w.heap.size, 8, none⟩ = some (.int .i64 p.speed) := hX.cell rfl
          have x11 : W6.cell? ⟨w.heap.size, 11, none⟩ = some (.int .i64 p.num) := hX.cell rfl
          obtain ⟨q, hq⟩ : ∃ q : Lk, q = { bareL p with num := p.num, den := 0, positions := p.positions, speed := p.speed } := ⟨_, rfl⟩
          have hqo : q.ok w w.heap.size := by rw [hq]; exact ⟨nilSl, nilSl, nilSl⟩
          rw [← hq] at hY
          have HX := Lib.hid hX
          have HY := Lib.hid hY
          have KS := Lib.hid (sameLink_any p q W6 (HP.out.up hB) (hqo.up hB))
          clear hX hY hqo hq
          all_goals
            go_wp2_with (first | (refine wpList_load_g (by rfl) 108 _ (by rfl) w.heap.size 0 (by rfl) p.cells _ HX.out.range HU.out rfl (lkInfo p) ?_) | (refine wpList_load_g (by rfl) 108 _ (by rfl) b3 0 (by rfl) q.cells _ HY.out.range HU.out rfl (lkInfo q) ?_) | (go_at_call 31; (with_reducible refine (KI.out _ _ _ _).mono ?_); rintro e5 w5 ⟨b, rfl, rfl, _⟩; cases b) | (go_at_call 32; (with_reducible refine (KV.out _ _).mono ?_); rintro e5 w5 ⟨b, rfl, rfl⟩; cases b) | (go_at_call 45; (with_reducible refine (KF.out _ _ _ _).mono ?_); rintro e5 w5 ⟨b, rfl, rfl⟩; cases b) | fail)
            all_goals first
              | (go_ret; exact ⟨_, rfl, hB⟩)
              | (go_at_call 58
                 (with_reducible refine KS.out.mono ?_)
                 rintro e9 w9 ⟨b, rfl, hb9⟩
                 have hB9 := hB.trans (hb9.mono hB.size)
                 go_wp2_with fail
                 all_goals
                   go_ret
                   exact ⟨_, rfl, hB9⟩)
        · skip
          by_cases hk3 : p.kind = 3
          · have k3 : (p.kind == 3) = true := by simp [hk3]
            have k0 : (p.kind == 0) = false := by simp; omega
            have k1 : (p.kind == 1) = false := by simp; omega
            have k5 : (p.kind == 5) = false := by simp; omega
            have k2 : (p.kind == 2) = false := by simp; omega
            clear hk0 hk1 hk5 hk2 hk3
            have x1 : W4.cell? ⟨w.heap.size, 1, none⟩ = some (.int .i64 p.kind) := hX.cell rfl
            have x13 : W4.cell? ⟨w.heap.size, 13, none⟩ = some (.int .i64 p.prime) := hX.cell rfl
            have x14 : W4.cell? ⟨w.heap.size, 14, none⟩ = some (.int .i64 p.brk) := hX.cell rfl
            obtain ⟨v13, y13⟩ : ∃ v, W4.cell? ⟨b3, 13, none⟩ = some v := Option.isSome_iff_exists.1 (isSome_box hY 13 (by show 13 < 18; omega))
            have u13 := hY.free 13
            obtain ⟨v14, y14⟩ : ∃ v, W4.cell? ⟨b3, 14, none⟩ = some v := Option.isSome_iff_exists.1 (isSome_box hY 14 (by show 14 < 18; omega))
            have u14 := hY.free 14
            go_upto_region 28 with fail
            have hX0 := hX.aside 13 (.int .i64 p.prime) hne
            have hY0 := hY.set 13 (.int .i64 p.prime)
            have hB0 := hB.setCell (p := ⟨b3, 13, none⟩) (by show w.heap.size ≤ b3; omega) (.int .i64 p.prime)
            have hX1 := hX0.aside 14 (.int .i64 p.brk) hne
            have hY1 := hY0.set 14 (.int .i64 p.brk)
            have hB1 := hB0.setCell (p := ⟨b3, 14, none⟩) (by show w.heap.size ≤ b3; omega) (.int .i64 p.brk)
            generalize ((W4.setCell ⟨b3, 13, none⟩ (.int .i64 p.prime)).setCell ⟨b3, 14, none⟩ (.int .i64 p.brk)) = W6 at hX1 hY1 hB1 ⊢
            clear hX hY hB hX0 hY0 hB0
            have hX := hX1
            have hB := hB1
            have hY : Box W6 b3 (Lk.cells ({ bareL p with num := p.num, den := p.den, prime := p.prime, brk := p.brk })).toArray 108 := hY1
            clear hX1 hY1 hB1
            have x13 : W6.cell? ⟨w.heap.size, 13, none⟩ = some (.int .i64 p.prime) := hX.cell rfl
            have x14 : W6.cell? ⟨w.heap.size, 14, none⟩ = some (.int .i64 p.brk) := hX.cell rfl
            obtain ⟨q, hq⟩ : ∃ q : Lk, q = { bareL p with num := p.num, den := p.den, prime := p.prime, brk := p.brk } := ⟨_, rfl⟩
            have hqo : q.ok w w.heap.size := by rw [hq]; exact ⟨nilSl, nilSl, nilSl⟩
            rw [← hq] at hY
            have HX := Lib.hid hX
            have HY := Lib.hid hY
            have KS := Lib.hid (sameLink_any p q W6 (HP.out.up hB) (hqo.up hB))
            clear hX hY hqo hq
            cases b4
            all_goals
              go_wp2_with (first | (refine wpList_load_g (by rfl) 108 _ (by rfl) w.heap.size 0 (by rfl) p.cells _ HX.out.range HU.out rfl (lkInfo p) ?_) | (refine wpList_load_g (by rfl) 108 _ (by rfl) b3 0 (by rfl) q.cells _ HY.out.range HU.out rfl (lkInfo q) ?_) | (go_at_call 31; (with_reducible refine (KI.out _ _ _ _).mono ?_); rintro e5 w5 ⟨b, rfl, rfl, _⟩; cases b) | (go_at_call 32; (with_reducible refine (KV.out _ _).mono ?_); rintro e5 w5 ⟨b, rfl, rfl⟩; cases b) | (go_at_call 45; (with_reducible refine (KF.out _ _ _ _).mono ?_); rintro e5 w5 ⟨b, rfl, rfl⟩; cases b) | fail)
              all_goals first
                | (go_ret; exact ⟨_, rfl, hB⟩)
                | (go_at_call 58
                   (with_reducible refine KS.out.mono ?_)
                   rintro e9 w9 ⟨b, rfl, hb9⟩
                   have hB9 := hB.trans (hb9.mono hB.size)
                   go_wp2_with fail
                   all_goals
                     go_ret
                     exact ⟨_, rfl, hB9⟩)
          · skip
            by_cases hk4 : p.kind = 4
            · have k4 : (p.kind == 4) = true := by simp [hk4]
              have k0 : (p.kind == 0) = false := by simp; omega
              have k1 : (p.kind == 1) = false := by simp; omega
              have k5 : (p.kind == 5) = false := by simp; omega
              have k2 : (p.kind == 2) = false := by simp; omega
              have k3 : (p.kind == 3) = false := by simp; omega
              clear hk0 hk1 hk5 hk2 hk3 hk4
              have x1 : W4.cell? ⟨w.heap.size, 1, none⟩ = some (.int .i64 p.kind) := hX.cell rfl
              have x15 : W4.cell? ⟨w.heap.size, 15, none⟩ = some (.int .i64 p.bnum) := hX.cell rfl
              have x16 : W4.cell? ⟨w.heap.size, 16, none⟩ = some (.int .i64 p.bden) := hX.cell rfl
              obtain ⟨v15, y15⟩ : ∃ v, W4.cell? ⟨b3, 15, none⟩ = some v := Option.isSome_iff_exists.1 (isSome_box hY 15 (by show 15 < 18; omega))
              have u15 := hY.free 15
              obtain ⟨v16, y16⟩ : ∃ v, W4.cell? ⟨b3, 16, none⟩ = some v := Option.isSome_iff_exists.1 (isSome_box hY 16 (by show 16 < 18; omega))
              have u16 := hY.free 16
              go_upto_region 32 with fail
              have hX0 := hX.aside 15 (.int .i64 p.bnum) hne
              have hY0 := hY.set 15 (.int .i64 p.bnum)
              have hB0 := hB.setCell (p := ⟨b3, 15, none⟩) (by show w.heap.size ≤ b3; omega) (.int .i64 p.bnum)
              have hX1 := hX0.aside 16 (.int .i64 p.bden) hne
              have hY1 := hY0.set 16 (.int .i64 p.bden)
              have hB1 := hB0.setCell (p := ⟨b3, 16, none⟩) (by show w.heap.size ≤ b3; omega) (.int .i64 p.bden)
              generalize ((W4.setCell ⟨b3, 15, none⟩ (.int .i64 p.bnum)).setCell ⟨b3, 16, none⟩ (.int .i64 p.bden)) = W6 at hX1 hY1 hB1 ⊢
              clear hX hY hB hX0 hY0 hB0
              have hX := hX1
              have hB := hB1
              have hY : Box W6 b3 (Lk.cells ({ bareL p with num := p.num, den := p.den, bnum := p.bnum, bden := p.bden })).toArray 108 := hY1
              clear hX1 hY1 hB1
              have x3 : W6.cell? ⟨w.heap.size, 3, none⟩ = some (.int .i64 p.to_) := hX.cell rfl
              have x15 : W6.cell? ⟨w.heap.size, 15, none⟩ = some (.int .i64 p.bnum) := hX.cell rfl
              have x16 : W6.cell? ⟨w.heap.size, 16, none⟩ = some (.int .i64 p.bden) := hX.cell rfl
              obtain ⟨q, hq⟩ : ∃ q : Lk, q = { bareL p with num := p.num, den := p.den, bnum := p.bnum, bden := p.bden } := ⟨_, rfl⟩
              have hqo : q.ok w w.heap.size := by rw [hq]; exact ⟨nilSl, nilSl, nilSl⟩
              rw [← hq] at hY
              have HX := Lib.hid hX
              have HY := Lib.hid hY
              have KS := Lib.hid (sameLink_any p q W6 (HP.out.up hB) (hqo.up hB))
              clear hX hY hqo hq
              obtain ⟨tt, htt⟩ : ∃ z, p.to_ = z := ⟨_, rfl⟩
              rw [htt] at x3
              clear htt
              have htc : decide (0 ≤ tt) = true ∨ decide (0 ≤ tt) = false := by cases decide (0 ≤ tt) <;> simp
              rcases htc with htc | htc <;> cases b4
              all_goals
                go_wp2_with (first | (refine wpList_load_g (by rfl) 108 _ (by rfl) w.heap.size 0 (by rfl) p.cells _ HX.out.range HU.out rfl (lkInfo p) ?_) | (refine wpList_load_g (by rfl) 108 _ (by rfl) b3 0 (by rfl) q.cells _ HY.out.range HU.out rfl (lkInfo q) ?_) | (go_at_call 31; (with_reducible refine (KI.out _ _ _ _).mono ?_); rintro e5 w5 ⟨b, rfl, rfl, _⟩; cases b) | (go_at_call 32; (with_reducible refine (KV.out _ _).mono ?_); rintro e5 w5 ⟨b, rfl, rfl⟩; cases b) | (go_at_call 45; (with_reducible refine (KF.out _ _ _ _).mono ?_); rintro e5 w5 ⟨b, rfl, rfl⟩; cases b) | fail)
                all_goals first
                  | (go_ret; exact ⟨_, rfl, hB⟩)
                  | (go_at_call 58
                     (with_reducible refine KS.out.mono ?_)
                     rintro e9 w9 ⟨b, rfl, hb9⟩
                     have hB9 := hB.trans (hb9.mono hB.size)
                     go_wp2_with fail
                     all_goals
                       go_ret
                       exact ⟨_, rfl, hB9⟩)
            · skip
              have k0 : (p.kind == 0) = false := by simp; omega
              have k1 : (p.kind == 1) = false := by simp; omega
              have k5 : (p.kind == 5) = false := by simp; omega
              have k2 : (p.kind == 2) = false := by simp; omega
              have k3 : (p.kind == 3) = false := by simp; omega
              have k4 : (p.kind == 4) = false := by simp; omega
              clear hk0 hk1 hk5 hk2 hk3 hk4
              have x1 : W4.cell? ⟨w.heap.size, 1, none⟩ = some (.int .i64 p.kind) := hX.cell rfl
              go_wp2_with fail
              go_ret
              exact ⟨_, rfl, hB⟩
end Go.Proofs.Ythoigjkelinjhaa.RT
