/- The walk of the reference's Reach. -/
import Derived.Test.YtkbceeobnbbfbaaV1
set_option linter.unusedSimpArgs false
set_option linter.unusedVariables false
namespace Go.Proofs.Ytkbceeobnbbfbaa
open Go.RowKit CM
attribute [local go_sem] alloc_drewN setCell_drewN shape_drewN

theorem hasI_nats {l : List Nat} {n : Nat} : hasI (natsI l) (n : Int) = decide (n ∈ l) := by
  unfold hasI natsI
  congr 1
  simp only [List.mem_map, eq_iff_iff]
  constructor
  · rintro ⟨a, h1, h2⟩
    have : a = n := by omega
    exact this ▸ h1
  · exact fun h => ⟨n, h, rfl⟩
theorem natsI_len (l : List Nat) : (natsI l).length = l.length := by simp [natsI]
set_option maxRecDepth 100000 in
set_option maxHeartbeats 4000000 in
theorem rreach_any (X : Bas) (pl : Pl) (p : Int) (w : World) {B : Nat} (hP : PlacesAt w B X.P pl) (hB : B ≤ w.heap.size) (hl : pl.length ≤ 1000000) :
    Calls Try.prog 30 #[.agg #[.string X.nm, .slice X.a1 X.l1 X.c1, .int .i64 X.cl, .slice X.P pl.length X.cP, .slice X.a4 X.l4 X.c4, .slice X.a5 X.l5 X.c5, .slice X.a6 X.l6 X.c6, .slice X.a7 X.l7 X.c7, .slice X.a8 X.l8 X.c8, .slice X.a9 X.l9 X.c9, .int .i64 X.er], .int .i64 p] w (ReachIs (reach pl p) w) := by
  obtain ⟨i0, hi, hz0, hz1, hz2⟩ := info_parts Try.infoInt
  have HP := Lib.hid hP
  clear hP
  have K1 := Lib.hid (fun (l : List Int) (C : Option Addr) (cc : Nat) (n : Int) (wx : World) (D : Nat) (hq : IntsAt wx D C l) (hl : l.length ≤ 9223372036854775807) => has37_any l C cc n wx hq hl)
  go_enter Try.func30, Try.ntmps30
  go_wp2_with fail
  go_loopw [1, 5] (fun q out wr => ∃ (acc : List Nat) (f : Nat) (p1 : Int), q = .int .i64 p1 ∧ Hid (RInv pl p acc f p1) ∧ lenV out = acc.length ∧ wr.ownsRow (w.heap.size + 1) 3 1 out acc.length (natsV acc) ∧
      BoxB wr w.heap.size X pl ∧ Below w.heap.size w wr ∧ w.heap.size + 1 ≤ wr.heap.size) (fun _ out _ => pl.length + 1 - lenV out)
  case atStart =>
    exact ⟨[], pl.length + 1, p, rfl, RInv.start pl p, rfl, World.ownsRow_nil _ _ _ _, BoxB.new w X pl, (Below.refl _ _).alloc (Nat.le_refl _) _, by simp⟩
  case round =>
    obtain ⟨acc, f, p1, rfl, hR, hlo, hrow, hX, hBw, hz⟩ := hrel
    obtain ⟨x0, x1, x2, x3, x4, x5, x6, x7, x8, x9, x10⟩ := hX.cells
    obtain ⟨C, cc, rfl, hI, hF⟩ := nats_of_owns hrow
    by_cases h0 : 0 ≤ p1
    case neg =>
      have hst : Hid (reach pl p = acc) := hR.out.stop (fun h => h0 h.1)
      clear K1 hR
      go_wp2_with fail
      go_ret
      exact ⟨C, cc, slice_ret hst.out.symm, by rw [hst.out]; exact hI, fun a ha => by have := hF a ha; omega, hBw⟩
    obtain ⟨n, rfl⟩ : ∃ n : Nat, p1 = n := ⟨p1.toNat, by omega⟩
    by_cases hn : n < pl.length
    case neg =>
      have hst : Hid (reach pl p = acc) := hR.out.stop (fun h => hn (by omega))
      clear K1 hR
      go_wp2_with fail
      go_ret
      exact ⟨C, cc, slice_ret hst.out.symm, by rw [hst.out]; exact hI, fun a ha => by have := hF a ha; omega, hBw⟩
    have hal := hR.out.len
    have e1 := natsI_len acc
    have K2 := fun wx (hq : IntsAt wx wr.heap.size C (natsI acc)) => K1.out (natsI acc) C cc (n : Int) wx _ hq (by omega)
    rw [e1, hasI_nats] at K2
    clear e1
    by_cases hm : n ∈ acc
    · have hst : Hid (reach pl p = acc) := hR.out.stop (fun h => h.2.2 (by simpa using hm))
      rw [decide_eq_true hm] at K2
      have K2 := Lib.hid K2
      have hI2 := Lib.hid hI
      clear K1 hR hm
      go_wp2_with (first | (go_at_call 26; ((with_reducible refine (K2.out _ hI2.out).mono ?_); rintro e1 w1 ⟨rfl, rfl⟩)) | fail)
      go_ret
      exact ⟨C, cc, slice_ret hst.out.symm, by rw [hst.out]; exact hI, fun a ha => by have := hF a ha; omega, hBw⟩
    · obtain ⟨r1, r2⟩ := hR.out.go hn hm
      rw [decide_eq_false hm] at K2
      have K2 := Lib.hid K2
      have hI2 := Lib.hid hI
      have HA := Lib.hid hm
      obtain ⟨bq, oq, hPe, hbq, hcq⟩ := HP.out (by omega)
      obtain ⟨c8, c9⟩ := hcq n hn
      have hcq := Lib.hid hcq
      rw [hPe] at x3
      clear K1 hR hm
      by_cases hd : 24 ≤ delayP pl n
      · have r1 := Lib.hid (r1 hd)
        clear r2
        go_wp2_with (first | (go_at_call 26; ((with_reducible refine (K2.out _ hI2.out).mono ?_); rintro e1 w1 ⟨rfl, rfl⟩)) | (at_builtin; refine wpList_append_own _ rfl _ _ 29 rfl (w.heap.size + 1) 3 i0 (.int .i64 0) 1 8 Try.underlying29 hi hz0 hz1 hz2 rfl (by decide) _ acc.length _ rfl (hrow.alloc _) ⟨wr.heap.size, 0, none⟩ 1 1 [.int .i64 n] rfl rfl (cell_one_at (by simp) _ _) (by simp [Value.oneCell']) (by unfold maxLen; omega) (by omega) (by simp; omega) ?_; intro v' w2 hown' hgrow _; obtain ⟨g', cap', rfl, hg1, hg2⟩ := hown'.form (by omega); have hb2 := below_app hrow (by omega) hgrow; have x3b := (hX.below hb2 (by omega)).cells.2.2.2.1; rw [hPe] at x3b; have hBw2 := hBw.trans (hb2.mono (by omega)); have c8 := (hBw2.cell (p := ⟨bq, _, none⟩) (by show bq < _; omega)).trans c8; have c9 := (hBw2.cell (p := ⟨bq, _, none⟩) (by show bq < _; omega)).trans c9) | fail)
        have hr2 : w2.ownsRow (w.heap.size + 1) 3 1 (.slice (some ⟨g', 0, none⟩) (acc.length + 1) cap') (acc ++ [n]).length (natsV (acc ++ [n])) := by rw [natsV_snoc, List.length_append]; exact hown'
        rw [← r1.out] at hr2
        obtain ⟨C2, cc2, he, hI3, hF3⟩ := nats_of_owns hr2
        go_ret
        exact ⟨C2, cc2, by rw [← he]; rfl, hI3, fun a ha => by have := hF3 a ha; omega, hBw2⟩
      · have r3 := Lib.hid (r2 hd)
        clear r1 r2
        go_wp2_with (first | (go_at_call 26; ((with_reducible refine (K2.out _ hI2.out).mono ?_); rintro e1 w1 ⟨rfl, rfl⟩)) | (at_builtin; refine wpList_append_own _ rfl _ _ 29 rfl (w.heap.size + 1) 3 i0 (.int .i64 0) 1 8 Try.underlying29 hi hz0 hz1 hz2 rfl (by decide) _ acc.length _ rfl (hrow.alloc _) ⟨wr.heap.size, 0, none⟩ 1 1 [.int .i64 n] rfl rfl (cell_one_at (by simp) _ _) (by simp [Value.oneCell']) (by unfold maxLen; omega) (by omega) (by simp; omega) ?_; intro v' w2 hown' hgrow _; obtain ⟨g', cap', rfl, hg1, hg2⟩ := hown'.form (by omega); have hb2 := below_app hrow (by omega) hgrow; have x3b := (hX.below hb2 (by omega)).cells.2.2.2.1; rw [hPe] at x3b; have hBw2 := hBw.trans (hb2.mono (by omega)); have c8 := (hBw2.cell (p := ⟨bq, _, none⟩) (by show bq < _; omega)).trans c8; have c9 := (hBw2.cell (p := ⟨bq, _, none⟩) (by show bq < _; omega)).trans c9) | fail)
        have hr2 : w2.ownsRow (w.heap.size + 1) 3 1 (.slice (some ⟨g', 0, none⟩) (acc.length + 1) cap') (acc ++ [n]).length (natsV (acc ++ [n])) := by rw [natsV_snoc, List.length_append]; exact hown'
        have hX2 := hX.below hb2 (by omega)
        have hz2 : w.heap.size + 1 ≤ w2.heap.size := by have := hb2.size; omega
        clear hown' hgrow hX hb2 hrow x0 x1 x2 x3 x4 x5 x6 x7 x8 x9 x10 x3b c8 c9 hBw
        rw [hPe]
        go_roundw
        case rel => exact ⟨acc ++ [n], f - 1, downP pl n, rfl, r3, by simp [lenV], hr2, hX2, hBw2, hz2⟩
        case measure =>
          show pl.length + 1 - (acc.length + 1) < pl.length + 1 - lenV _
          rw [hlo]; omega
end Go.Proofs.Ytkbceeobnbbfbaa
