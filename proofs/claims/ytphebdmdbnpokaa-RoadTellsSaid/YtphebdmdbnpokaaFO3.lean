/- Joined of: FO3. -/
import Derived.Deep.RegionHeld3
import Derived.Deep.DrawnRows
import Derived.Laws.EntriesVeiled
import Derived.ChangeAlike
import Derived.Deep.DeepCutAuto
import Derived.Deep.CutRange
import Derived.IntWalk
import Derived.Test.YtphebdmdbnpokaaG09
import Derived.Test.YtphebdmdbnpokaaG06
/- The walk of flow.open. -/
set_option linter.unusedSimpArgs false
set_option linter.unusedVariables false
namespace Go.Proofs.Ytphebdmdbnpokaa.FL
open Go.RowKit FM
attribute [local go_sem] alloc_drewN setCell_drewN shape_drewN
attribute [local go_sem ↓] Go.wp_at_zero Go.wp_at_succ

theorem info51 : (Try.prog.info? 93).map (fun i => (i.zero, i.size, i.bytes)) = some (some (.agg #[.int .i64 0, .int .i64 0]), 2, 16) := by kernel_rfl
theorem info23 : (Try.prog.info? 29).map (fun i => (i.zero, i.size, i.bytes)) = some (some (.slice none 0 0), 1, 24) := by kernel_rfl

theorem block_new {w : World} {b : Nat} (o : Obj) (h : b = w.heap.size) : (w.alloc o).heap[b]? = some o := by subst h; exact heap_alloc_new w o
theorem owns_nil (w : World) (B e : Nat) : w.ownsRow B e 1 (.slice none 0 0) ([] : List Nat).length (intV []) := ⟨rfl, .inl ⟨rfl, rfl⟩⟩
theorem opn_made1 (w : World) (n : Nat) :
    Opn (((w.alloc (.cells (zeros (.slice none 0 0) n) 29)).alloc (.cells (zeros (.int .i64 0) n) 3)).alloc (.cells #[.slice none 0 0, .slice (some ⟨w.heap.size, 0, none⟩) n n, .slice (some ⟨w.heap.size + 1, 0, none⟩) n n] 75)).drew
      w.heap.size n (w.heap.size + 1 + 1) w.heap.size (w.heap.size + 1) (.slice none 0 0) 0 [] (fun _ => .slice none 0 0) (fun _ => []) := by
  refine Opn.drew ⟨⟨by omega, by omega, by omega⟩, ⟨by simp, by simp; omega, by simp⟩, ⟨by omega, by omega, by omega⟩, ⟨?_, ?_⟩, ?_, ?_, ⟨rfl, .inl ⟨rfl, rfl⟩⟩, fun b e => by simp [Value.ownBlock] at e, fun v hv => ⟨?_, ?_⟩, fun v _ => owns_nil _ _ _, fun v _ b e => by simp [Value.ownBlock] at e, fun u v _ _ _ b e => by simp [Value.ownBlock] at e, fun v hv => ⟨?_, ?_⟩⟩
  · rw [new_cell (by simp)]; rfl
  · rw [new_free (by simp)]
  · rw [new_cell (by simp)]; rfl
  · rw [new_cell (by simp)]; rfl
  · rw [old_cell _ (by simp; omega), old_cell _ (by simp), new_cell rfl, zeros_get _ hv]
  · rw [old_free _ (by simp; omega), old_free _ (by simp), new_free rfl]
  · rw [old_cell _ (by simp), new_cell (by simp), zeros_get _ hv]
  · rw [old_free _ (by simp), new_free (by simp)]
theorem opn_made2 (w : World) (n : Nat) :
    Opn (((w.alloc (.cells (zeros (.int .i64 0) n) 3)).alloc (.cells (zeros (.slice none 0 0) n) 29)).alloc (.cells #[.slice none 0 0, .slice (some ⟨w.heap.size + 1, 0, none⟩) n n, .slice (some ⟨w.heap.size, 0, none⟩) n n] 75)).drew
      w.heap.size n (w.heap.size + 1 + 1) (w.heap.size + 1) w.heap.size (.slice none 0 0) 0 [] (fun _ => .slice none 0 0) (fun _ => []) := by
  refine Opn.drew ⟨⟨by omega, by omega, by omega⟩, ⟨by simp, by simp, by simp; omega⟩, ⟨by omega, by omega, by omega⟩, ⟨?_, ?_⟩, ?_, ?_, ⟨rfl, .inl ⟨rfl, rfl⟩⟩, fun b e => by simp [Value.ownBlock] at e, fun v hv => ⟨?_, ?_⟩, fun v _ => owns_nil _ _ _, fun v _ b e => by simp [Value.ownBlock] at e, fun u v _ _ _ b e => by simp [Value.ownBlock] at e, fun v hv => ⟨?_, ?_⟩⟩
  · rw [new_cell (by simp)]; rfl
  · rw [new_free (by simp)]
  · rw [new_cell (by simp)]; rfl
  · rw [new_cell (by simp)]; rfl
  · rw [old_cell _ (by simp), new_cell (by simp), zeros_get _ hv]
  · rw [old_free _ (by simp), new_free (by simp)]
  · rw [old_cell _ (by simp; omega), old_cell _ (by simp), new_cell rfl, zeros_get _ hv]
  · rw [old_free _ (by simp; omega), old_free _ (by simp), new_free rfl]
/-- What holds between two statements of a round: the arc's cells are at hand in a block of their own. -/
def CutO (w : World) (b7 n gO gD : Nat) (A : List Arc) (k : Nat) (x y : Nat) (ls : Nat → List Nat) (wx : World) : Prop :=
  ∃ ve rv, Opn wx w.heap.size n (w.heap.size + 1 + 1) gO gD ve (2 * (k + 1)) (esOf (A.take (k + 1))) rv ls ∧ Below w.heap.size w wx ∧ b7 < wx.heap.size ∧ (∀ v, v < n → (rv v).ownBlock ≠ some b7) ∧
    (gO ≠ b7 ∧ w.heap.size + 1 + 1 ≠ b7) ∧ wx.cell? ⟨b7, 0, none⟩ = some (.int .i64 x) ∧ wx.cell? ⟨b7, 1, none⟩ = some (.int .i64 y)
def OpenSaid (w : World) (n : Nat) (A : List Arc) (e : Ending) (w' : World) : Prop :=
  ∃ a : NA, e = .returned (.pointer (some ⟨a.X, 0, none⟩)) ∧ Net w' w.heap.size w'.heap.size n A a (L0 A) (fun _ => 0) ∧ Below w.heap.size w w'

set_option maxHeartbeats 1000000 in
set_option maxRecDepth 10000 in
theorem open_any (n : Nat) (C : Option Addr) (cc : Nat) (A : List Arc) (w : World) (hC : ArcsAt w w.heap.size C A) (hm : A.length ≤ 4096) (hA : inN n A) (hn : n ≤ 256) :
    Calls Try.prog 34 #[.int .i64 n, .slice C A.length cc] w (OpenSaid w n A) := by
  obtain ⟨i0, hi, hz0, hz1, hz2⟩ := info_parts info3
  obtain ⟨i2, li, lz0, lz1, lz2⟩ := info_parts info51
  obtain ⟨i1, ki, kz0, kz1, kz2⟩ := info_parts info23
  have hmk := fun wx => run_make1 (P := Try.prog) 29 3 i0 (.int .i64 0) Try.underlying29 hi hz0 hz1 rfl n n (Nat.le_refl _) (by rw [hz2]; omega) (by omega) wx
  have hmk2 := fun wx => run_make1 (P := Try.prog) 32 29 i1 (.slice none 0 0) Try.underlying32 ki kz0 kz1 rfl n n (Nat.le_refl _) (by rw [kz2]; omega) (by omega) wx
  go_enter Try.func34, Try.ntmps34
  go_wp2_with fail
  go_region
  all_goals
    clear hmk hmk2
    go_wp2_with fail
    go_loopw [16] (fun i wr => ∃ (k gO gD : Nat) (ve : Value) (rv : Nat → Value) (ls : Nat → List Nat), k ≤ A.length ∧ i = .int .i64 k ∧ Opn wr w.heap.size n (w.heap.size + 1 + 1) gO gD ve (2 * k) (esOf (A.take k)) rv ls ∧ Hid (∀ v, v < n → ls v = outs (A.take k) v) ∧ Below w.heap.size w wr) (fun i _ => A.length - (intOf i).toNat)
    case atStart =>
      first
      | exact ⟨0, _, _, _, _, _, Nat.zero_le _, rfl, opn_made1 w n, fun v _ => rfl, below_drewN ((((Below.refl _ w).alloc (Nat.le_refl _) _).alloc (by simp) _).alloc (by simp; omega) _) 1⟩
      | exact ⟨0, _, _, _, _, _, Nat.zero_le _, rfl, opn_made2 w n, fun v _ => rfl, below_drewN ((((Below.refl _ w).alloc (Nat.le_refl _) _).alloc (by simp) _).alloc (by simp; omega) _) 1⟩
      | fail
    case round =>
      obtain ⟨k, gO, gD, ve, rv, ls, hk, rfl, hO, hls, hb⟩ := hrel
      by_cases hlt : k < A.length
      · obtain ⟨b, off, x, y, z, rfl, hbb, ha, c0, c1, c2⟩ := (hC.below hb).at_ hlt
        have hin := hA (x, y, z) (List.mem_of_getElem? ha.out)
        obtain ⟨g0, g1, g2, g3⟩ := hin
        have g0 : 0 ≤ x := g0
        have g1 : x < n := g1
        have g2 : 0 ≤ y := g2
        have g3 : y < n := g3
        obtain ⟨x, rfl⟩ := Int.eq_ofNat_of_zero_le g0
        obtain ⟨y, rfl⟩ := Int.eq_ofNat_of_zero_le g2
        have x0 := hO.x0
        obtain ⟨x0, f0⟩ := x0
        have hXlt := hO.hi.1
        have nX : some (w.heap.size + 1 + 1) ≠ ve.ownBlock := fun e => (hO.far _ e.symm).1 rfl
        have n7 : some wr.heap.size ≠ ve.ownBlock := fun e => by have := (hO.own.lt _ e.symm).2; omega
        have hown := hO.own
        have f1 := (old_free (.cells #[.int .i64 x, .int .i64 y, .int .i64 z] 66) hXlt).trans f0
        have f2 := (old_free (w := wr.alloc (.cells #[.int .i64 x, .int .i64 y, .int .i64 z] 66)) (.cells #[.int .i64 y, .int .i64 z, .int .i64 x, .int .i64 0] 93) (by simp; omega)).trans f1
        have hsz : (A.take k).length = k := by simp; omega
        have hH := Lib.hid hsz
        clear hsz
        have x1' := (old_cell (.cells #[.int .i64 x, .int .i64 y, .int .i64 z] 66) hXlt).trans x0
        have x2' := (old_cell (w := wr.alloc (.cells #[.int .i64 x, .int .i64 y, .int .i64 z] 66)) (.cells #[.int .i64 y, .int .i64 z, .int .i64 x, .int .i64 0] 93) (by simp; omega)).trans x1'
        go_upto_region 5 with fail
        go_cut [16] from 16 to 77 (fun s16 wx => s16 = .int .i64 k ∧ CutO w wr.heap.size n gO gD A k x y ls wx)
        case first =>
          refine Plan.wp_region_plan (fun w' => w'.cell? ⟨w.heap.size + 1 + 1, 0, none⟩ = some ve ∧ w'.frozen? ⟨w.heap.size + 1 + 1, 0, none⟩ = false ∧ w'.cell? ⟨wr.heap.size, 0, none⟩ = some (.int .i64 x) ∧ w'.cell? ⟨wr.heap.size, 1, none⟩ = some (.int .i64 y) ∧ w'.cell? ⟨wr.heap.size, 2, none⟩ = some (.int .i64 z)) 17 [(0, true), (1, true), (2, true), (3, true), (4, true), (5, true), (6, true), (7, true), (8, true), (9, true), (10, true), (11, true), (12, true), (13, false), (14, false), (15, false), (16, false), (17, false)] (by kernel_rfl) (by kernel_rfl) ?_ ?_
          · refine ⟨?_, ?_, ?_, ?_, ?_⟩ <;> go_simp
          (repeat (refine Plan.plan_read (v := ?_) rfl rfl ?_ ?_; rotate_left; (focus ((intro wS hSw; (try dsimp only at hSw); go_simp); try with_reducible rfl)); simp only [Act.put, List.setIfInBounds_toArray, List.set_cons_zero, List.set_cons_succ]))
          refine Plan.plan_write rfl (fun K hK => ?_)
          go_simp
          refine hK.out _ _ ?_ ?_
          · refine ⟨?_, ?_, ?_, ?_, ?_⟩ <;> go_simp
          clear hK K
          try simp only [Act.put, List.setIfInBounds_toArray, List.set_cons_zero, List.set_cons_succ]
          refine Plan.plan_write rfl (fun K hK => ?_)
          refine step_append_lies _ (by rfl) _ _ _ (by rfl) w.heap.size 93 i2 _ 2 16 Try.underlying73 li lz0 lz1 lz2 rfl (by omega) ve (2 * k) (esOf (A.take k)) (by rfl) (((hown.alloc _).alloc _).drew) ⟨wr.heap.size + 1, 0, none⟩ 2 2 [.int .i64 y, .int .i64 z, .int .i64 x, .int .i64 0] (by rfl) (by rfl) (World.news_of_block (cs := #[.int .i64 y, .int .i64 z, .int .i64 x, .int .i64 0]) (t := 93) (fr := (0, 0)) (block_new (w := wr.alloc (.cells #[.int .i64 x, .int .i64 y, .int .i64 z] 66)) _ (by simp))) (by simp [Value.oneCell']) (by omega) (by unfold maxLen; omega) (by omega) (by simp; omega) (wr.heap.size + 1 + 1) (by simp) ?_
          intro gg cap w1 hown1 hgrow hat hlt1
          have hX1 : w1.cell? ⟨w.heap.size + 1 + 1, 0, none⟩ = some ve := (hgrow.cell_far ⟨w.heap.size + 1 + 1, 0, none⟩ (by simp; omega) nX).trans x2'
          have hF1 : w1.frozen? ⟨w.heap.size + 1 + 1, 0, none⟩ = false := (hgrow.frozen_far ⟨w.heap.size + 1 + 1, 0, none⟩ (by simp; omega) nX).trans f2
          have hc7 := fun o => hgrow.cell_far ⟨wr.heap.size, o, none⟩ (by simp <;> omega) n7
          have hc70 : w1.cell? ⟨wr.heap.size, 0, none⟩ = some (.int .i64 x) := (hc7 0).trans (by go_simp)
          have hc71 : w1.cell? ⟨wr.heap.size, 1, none⟩ = some (.int .i64 y) := (hc7 1).trans (by go_simp)
          have hc72 : w1.cell? ⟨wr.heap.size, 2, none⟩ = some (.int .i64 z) := (hc7 2).trans (by go_simp)
          have hS1 := And.intro hX1 (And.intro hF1 (And.intro hc70 (And.intro hc71 hc72)))
          have hS1h := Lib.hid hS1
          clear hc7
          refine hK.out _ _ hS1 ?_
          clear hK K
          try simp only [Act.put, List.setIfInBounds_toArray, List.set_cons_zero, List.set_cons_succ]
          refine Plan.plan_write rfl (fun K hK => ?_)
          go_simp
          refine hK.out _ _ hS1h.out ?_
          clear hK K
          refine Plan.plan_write rfl (fun K hK => ?_)
          go_simp
          refine hK.out _ _ hS1h.out ?_
          clear hK K
          refine Plan.plan_last rfl (fun K hK => ?_)
          go_simp
          refine hK.out _ _ ?_
          clear hK K
          try simp only [Act.put, List.setIfInBounds_toArray, List.set_cons_zero, List.set_cons_succ]
          go_wp2_with fail
          go_meet
          refine ⟨rfl, .slice (some ⟨gg, 0, none⟩) (2 * k + 2) cap, rv, ?_, (((((hb.alloc hb.size _).alloc (by simp; omega) _).drew).grown hgrow (by simp; omega) (fun k h => (hO.own.lt k h).1)).setCell (by simp; omega) _), ?_, ?_, ⟨?_, ?_⟩, ?_, ?_⟩
          · have he : esOf (A.take (k + 1)) = esOf (A.take k) ++ [.int .i64 y, .int .i64 z, .int .i64 x, .int .i64 0] := by
              have : A.take (k + 1) = A.take k ++ [((x : Int), (y : Int), z)] := by rw [List.take_add_one, ha.out]; rfl
              rw [this, esOf_snoc]
            rw [he]
            exact ((((hO.alloc _).alloc _).drew).edges hgrow hown1 (by simpa using hat))
          · have := hgrow.size
            simp at this ⊢
            omega
          · exact fun v hv e => by have := ((hO.row v hv).lt _ e).2; omega
          · have := hO.hi.2.1; omega
          · omega
          · rw [cset_other (fun e => by injection e with e1; omega)]; exact hc70
          · rw [cset_other (fun e => by injection e with e1; omega)]; exact hc71
        case rest =>
          have hk4 : (k : Int) ≤ 4096 := by omega
          have hlo : ∀ v, v < n → (ls v).length + 2 ≤ 8192 := fun v hv => by rw [hls.out v hv]; have := outs_len (A.take k) v; have := hH.out; omega
          have hll6 : ∀ v, v < n → (ls v).length ≤ 8192 := fun v hv => by have := hlo v hv; omega
          have hll7 : ∀ v, v < n → (addTo ls x (2 * k) v).length ≤ 8192 := fun v hv => by have := hlo v hv; unfold addTo; split <;> simp <;> omega
          have cast6 := Lib.hid (show ((2 * k : Nat) : Int) = 2 * (k : Int) by omega)
          have cast7 := Lib.hid (show ((2 * k + 1 : Nat) : Int) = 2 * (k : Int) + 1 by omega)
          obtain ⟨b7, hb7⟩ : ∃ q, q = wr.heap.size := ⟨_, rfl⟩
          have Hll7 := Lib.hid hll7
          have Hls := hls
          clear hll7 hlo x1' x2' f1 f2 n7 nX hown x0 f0 hXlt c0 c1 c2 hls
          rw [← hb7] at hcut ⊢
          clear hb7
          obtain ⟨rfl, ve2, rv2, hO2, hb2, h7lt, h7ne, ⟨n7O, n7X⟩, c70, c71⟩ := hcut
          have x1 := hO2.x1
          have hXl := hO2.hi.1
          have hOl := hO2.hi.2.1
          obtain ⟨r0, r1⟩ := hO2.out x (by omega)
          obtain ⟨rvu, hrvu⟩ : ∃ q, q = rv2 x := ⟨_, rfl⟩
          rw [← hrvu] at r0
          have hown : wc.ownsRow w.heap.size 3 1 rvu (ls x).length (intV (ls x)) := hrvu ▸ hO2.row x (by omega)
          have hfar : ∀ b, rvu.ownBlock = some b → b ≠ w.heap.size + 1 + 1 ∧ b ≠ gO ∧ b ≠ b7 := fun b e => by
            rw [hrvu] at e
            obtain ⟨a1, a2, a3, a4⟩ := hO2.rfar x (by omega) b e
            exact ⟨a1, a2, fun g => h7ne x (by omega) (g ▸ e)⟩
          have nX : some (w.heap.size + 1 + 1) ≠ rvu.ownBlock := fun e => (hfar _ e.symm).1 rfl
          have nO : some gO ≠ rvu.ownBlock := fun e => (hfar _ e.symm).2.1 rfl
          have n7 : some b7 ≠ rvu.ownBlock := fun e => (hfar _ e.symm).2.2 rfl
          have hlen : (ls x).length ≤ 8192 := hll6 x (by omega)
          have x1a := (old_cell (.cells #[.int .i64 (2 * (k : Int))] 3) hXl).trans x1
          have r0a := (old_cell (.cells #[.int .i64 (2 * (k : Int))] 3) hOl).trans r0
          have r1a := (old_free (.cells #[.int .i64 (2 * (k : Int))] 3) hOl).trans r1
          have c70a := (old_cell (.cells #[.int .i64 (2 * (k : Int))] 3) h7lt).trans c70
          have c71a := (old_cell (.cells #[.int .i64 (2 * (k : Int))] 3) h7lt).trans c71
          have hll' := Lib.hid hll6
          have Hrvu := Lib.hid hrvu
          clear hrvu
          clear hll6
          go_upto_region 6 with fail
          go_cut [16] from 16 to 77 (fun s16 wx => s16 = .int .i64 k ∧ CutO w b7 n gO gD A k x y (addTo (ls) x (2 * k)) wx)
          case first =>
            refine Plan.wp_region_plan (fun w' => w'.cell? ⟨w.heap.size + 1 + 1, 1, none⟩ = some (.slice (some ⟨gO, 0, none⟩) n n) ∧ w'.cell? ⟨b7, 0, none⟩ = some (.int .i64 x) ∧ w'.cell? ⟨gO, x, none⟩ = some rvu ∧ w'.frozen? ⟨gO, x, none⟩ = false) 19 [(0, true), (1, true), (2, true), (3, true), (4, true), (5, true), (6, true), (7, true), (8, true), (9, true), (10, true), (11, true), (12, true), (13, true), (14, true), (15, true), (16, false), (17, false), (18, false), (19, false)] (by kernel_rfl) (by kernel_rfl) ?_ ?_
            · refine ⟨?_, ?_, ?_, ?_⟩ <;> go_simp
            have wr1 : IntKind.i64.wrap (2 * (k : Int)) = 2 * (k : Int) := IntWalk.i64_in _ (by omega)
            have wr2 : IntKind.i64.wrap (2 * (k : Int) + 1) = 2 * (k : Int) + 1 := IntWalk.i64_in _ (by omega)
            (repeat (refine Plan.plan_read (v := ?_) rfl rfl ?_ ?_; rotate_left; (focus ((intro wS hSw; (try dsimp only at hSw); go_simp); try with_reducible rfl)); simp only [Act.put, List.setIfInBounds_toArray, List.set_cons_zero, List.set_cons_succ]))
            clear wr1 wr2
            refine Plan.plan_write rfl (fun K hK => ?_)
            go_simp
            refine hK.out _ _ ?_ ?_
            · refine ⟨?_, ?_, ?_, ?_⟩ <;> go_simp
            clear hK K
            try simp only [Act.put, List.setIfInBounds_toArray, List.set_cons_zero, List.set_cons_succ]
            refine Plan.plan_write rfl (fun K hK => ?_)
            refine step_append_lies _ (by rfl) _ _ _ (by rfl) w.heap.size 3 i0 _ 1 8 Try.underlying29 hi hz0 hz1 hz2 rfl (by omega) rvu (ls x).length (intV (ls x)) (by rfl) ((hown.alloc _).drew) ⟨wc.heap.size, 0, none⟩ 1 1 [.int .i64 (2 * (k : Int))] (by rfl) (by rfl) (World.news_of_block (cs := #[.int .i64 (2 * (k : Int))]) (t := 3) (fr := (0, 0)) (block_new (w := wc) _ rfl)) (by simp [Value.oneCell']) (by omega) (by unfold maxLen; omega) (by omega) (by have := hb2.size; simp; omega) (wc.heap.size + 1) (by simp) ?_
            intro gg cap w1 hown1 hgrow hat hlt1
            have k1 : w1.cell? ⟨w.heap.size + 1 + 1, 1, none⟩ = some (.slice (some ⟨gO, 0, none⟩) n n) := (hgrow.cell_far ⟨w.heap.size + 1 + 1, 1, none⟩ (by simp; omega) nX).trans x1a
            have k2 : w1.cell? ⟨b7, 0, none⟩ = some (.int .i64 x) := (hgrow.cell_far ⟨b7, 0, none⟩ (by simp; omega) n7).trans c70a
            have k3 : w1.cell? ⟨gO, x, none⟩ = some rvu := (hgrow.cell_far ⟨gO, x, none⟩ (by simp; omega) nO).trans r0a
            have k4 : w1.frozen? ⟨gO, x, none⟩ = false := (hgrow.frozen_far ⟨gO, x, none⟩ (by simp; omega) nO).trans r1a
            have hS1h := Lib.hid (And.intro k1 (And.intro k2 (And.intro k3 k4)))
            refine hK.out _ _ hS1h.out ?_
            clear hK K
            try simp only [Act.put, List.setIfInBounds_toArray, List.set_cons_zero, List.set_cons_succ]
            refine Plan.plan_write rfl (fun K hK => ?_)
            go_simp
            refine hK.out _ _ hS1h.out ?_
            clear hK K
            refine Plan.plan_last rfl (fun K hK => ?_)
            go_simp
            refine hK.out _ _ ?_
            clear hK K
            try simp only [Act.put, List.setIfInBounds_toArray, List.set_cons_zero, List.set_cons_succ]
            go_wp2_with fail
            go_meet
            have hp := ((((hO2.alloc (.cells #[.int .i64 (2 * (k : Int))] 3)).drew)).push (u := x) (e := 2 * k) (by omega) (Hrvu.out ▸ hgrow) (by rw [cast6.out]; exact hown1) (by rw [← Hrvu.out]; simpa using hat))
            refine ⟨rfl, ve2, updV rv2 x (.slice (some ⟨gg, 0, none⟩) ((ls x).length + 1) cap), hp, (((hb2.alloc hb2.size _).drew).grown hgrow (by have := hb2.size; simp; omega) (fun k h => (hown.lt k h).1)).setCell (by have := hO2.lo.2.1; exact this) _, ?_, fun v hv => ?_, ⟨n7O, n7X⟩, ?_, ?_⟩
            · have := hgrow.size
              simp at this ⊢
              omega
            · unfold updV
              split
              · intro e
                obtain rfl : gg = b7 := by simpa [Value.ownBlock] using e
                rcases hat with g | g
                · exact n7 g.symm
                · omega
              · exact h7ne v hv
            · rw [cset_other (fun e => by injection e with e1; omega)]; exact (hgrow.cell_far ⟨b7, 0, none⟩ (by simp; omega) n7).trans c70a
            · rw [cset_other (fun e => by injection e with e1; omega)]; exact (hgrow.cell_far ⟨b7, 1, none⟩ (by simp; omega) n7).trans c71a
          case rest =>
            have hll7 := Hll7.out
            obtain ⟨rfl, ve3, rv3, hO3, hb3, h7lt, h7ne, ⟨n7O, n7X⟩, c70, c71⟩ := hcut
            have x1 := hO3.x1
            have hXl := hO3.hi.1
            have hOl := hO3.hi.2.1
            obtain ⟨r0, r1⟩ := hO3.out y (by omega)
            obtain ⟨rvu, hrvu⟩ : ∃ q, q = rv3 y := ⟨_, rfl⟩
            rw [← hrvu] at r0
            have hown : wc.ownsRow w.heap.size 3 1 rvu (addTo ls x (2 * k) y).length (intV (addTo ls x (2 * k) y)) := hrvu ▸ hO3.row y (by omega)
            have hfar : ∀ b, rvu.ownBlock = some b → b ≠ w.heap.size + 1 + 1 ∧ b ≠ gO ∧ b ≠ b7 := fun b e => by
              rw [hrvu] at e
              obtain ⟨a1, a2, a3, a4⟩ := hO3.rfar y (by omega) b e
              exact ⟨a1, a2, fun g => h7ne y (by omega) (g ▸ e)⟩
            have nX : some (w.heap.size + 1 + 1) ≠ rvu.ownBlock := fun e => (hfar _ e.symm).1 rfl
            have nO : some gO ≠ rvu.ownBlock := fun e => (hfar _ e.symm).2.1 rfl
            have n7 : some b7 ≠ rvu.ownBlock := fun e => (hfar _ e.symm).2.2 rfl
            have hlen : (addTo ls x (2 * k) y).length ≤ 8192 := hll7 y (by omega)
            have x1a := (old_cell (.cells #[.int .i64 (2 * (k : Int) + 1)] 3) hXl).trans x1
            have r0a := (old_cell (.cells #[.int .i64 (2 * (k : Int) + 1)] 3) hOl).trans r0
            have r1a := (old_free (.cells #[.int .i64 (2 * (k : Int) + 1)] 3) hOl).trans r1
            have c70a := (old_cell (.cells #[.int .i64 (2 * (k : Int) + 1)] 3) h7lt).trans c70
            have c71a := (old_cell (.cells #[.int .i64 (2 * (k : Int) + 1)] 3) h7lt).trans c71
            have hll' := Lib.hid hll7
            have Hrvu := Lib.hid hrvu
            clear hrvu
            clear hll7
            go_upto_region 7 with fail
            refine Plan.wp_region_plan (fun w' => w'.cell? ⟨w.heap.size + 1 + 1, 1, none⟩ = some (.slice (some ⟨gO, 0, none⟩) n n) ∧ w'.cell? ⟨b7, 1, none⟩ = some (.int .i64 y) ∧ w'.cell? ⟨gO, y, none⟩ = some rvu ∧ w'.frozen? ⟨gO, y, none⟩ = false) 20 [(0, true), (1, true), (2, true), (3, true), (4, true), (5, true), (6, true), (7, true), (8, true), (9, true), (10, true), (11, true), (12, true), (13, true), (14, true), (15, true), (16, true), (17, false), (18, false), (19, false), (20, false)] (by kernel_rfl) (by kernel_rfl) ?_ ?_
            · refine ⟨?_, ?_, ?_, ?_⟩ <;> go_simp
            have wr1 : IntKind.i64.wrap (2 * (k : Int)) = 2 * (k : Int) := IntWalk.i64_in _ (by omega)
            have wr2 : IntKind.i64.wrap (2 * (k : Int) + 1) = 2 * (k : Int) + 1 := IntWalk.i64_in _ (by omega)
            (repeat (refine Plan.plan_read (v := ?_) rfl rfl ?_ ?_; rotate_left; (focus ((intro wS hSw; (try dsimp only at hSw); go_simp); try with_reducible rfl)); simp only [Act.put, List.setIfInBounds_toArray, List.set_cons_zero, List.set_cons_succ]))
            clear wr1 wr2
            refine Plan.plan_write rfl (fun K hK => ?_)
            go_simp
            refine hK.out _ _ ?_ ?_
            · refine ⟨?_, ?_, ?_, ?_⟩ <;> go_simp
            clear hK K
            try simp only [Act.put, List.setIfInBounds_toArray, List.set_cons_zero, List.set_cons_succ]
            refine Plan.plan_write rfl (fun K hK => ?_)
            refine step_append_lies _ (by rfl) _ _ _ (by rfl) w.heap.size 3 i0 _ 1 8 Try.underlying29 hi hz0 hz1 hz2 rfl (by omega) rvu (addTo ls x (2 * k) y).length (intV (addTo ls x (2 * k) y)) (by rfl) ((hown.alloc _).drew) ⟨wc.heap.size, 0, none⟩ 1 1 [.int .i64 (2 * (k : Int) + 1)] (by rfl) (by rfl) (World.news_of_block (cs := #[.int .i64 (2 * (k : Int) + 1)]) (t := 3) (fr := (0, 0)) (block_new (w := wc) _ rfl)) (by simp [Value.oneCell']) (by omega) (by unfold maxLen; omega) (by omega) (by have := hb3.size; simp; omega) (wc.heap.size + 1) (by simp) ?_
            intro gg cap w1 hown1 hgrow hat hlt1
            have k1 : w1.cell? ⟨w.heap.size + 1 + 1, 1, none⟩ = some (.slice (some ⟨gO, 0, none⟩) n n) := (hgrow.cell_far ⟨w.heap.size + 1 + 1, 1, none⟩ (by simp; omega) nX).trans x1a
            have k2 : w1.cell? ⟨b7, 1, none⟩ = some (.int .i64 y) := (hgrow.cell_far ⟨b7, 1, none⟩ (by simp; omega) n7).trans c71a
            have k3 : w1.cell? ⟨gO, y, none⟩ = some rvu := (hgrow.cell_far ⟨gO, y, none⟩ (by simp; omega) nO).trans r0a
            have k4 : w1.frozen? ⟨gO, y, none⟩ = false := (hgrow.frozen_far ⟨gO, y, none⟩ (by simp; omega) nO).trans r1a
            have hS1h := Lib.hid (And.intro k1 (And.intro k2 (And.intro k3 k4)))
            refine hK.out _ _ hS1h.out ?_
            clear hK K
            try simp only [Act.put, List.setIfInBounds_toArray, List.set_cons_zero, List.set_cons_succ]
            refine Plan.plan_write rfl (fun K hK => ?_)
            go_simp
            refine hK.out _ _ hS1h.out ?_
            clear hK K
            refine Plan.plan_last rfl (fun K hK => ?_)
            go_simp
            refine hK.out _ _ ?_
            clear hK K
            try simp only [Act.put, List.setIfInBounds_toArray, List.set_cons_zero, List.set_cons_succ]
            go_wp2_with fail
            have hp := ((((hO3.alloc (.cells #[.int .i64 (2 * (k : Int) + 1)] 3)).drew)).push (u := y) (e := 2 * k + 1) (by omega) (Hrvu.out ▸ hgrow) (by rw [cast7.out]; exact hown1) (by rw [← Hrvu.out]; simpa using hat))
            go_roundw
            case rel =>
              refine ⟨k + 1, gO, gD, ve3, updV rv3 y (.slice (some ⟨gg, 0, none⟩) ((addTo ls x (2 * k) y).length + 1) cap), _, by omega, by go_num, hp, fun v hv => ?_, (((hb3.alloc hb3.size _).drew).grown hgrow (by have := hb3.size; simp; omega) (fun k h => (hown.lt k h).1)).setCell (by have := hO3.lo.2.1; exact this) _⟩
              have hz := outs_add (A.take k) ((x : Int), (y : Int), z) x y rfl rfl ls v (Hls.out v hv)
              have e1 : A.take (k + 1) = A.take k ++ [((x : Int), (y : Int), z)] := by rw [List.take_add_one, ha.out]; rfl
              rw [hH.out] at hz
              rw [e1]
              exact hz
            case measure => simp [intOf]; omega
      · have hall : A.take k = A := List.take_of_length_le (by omega)
        obtain rfl : A.length = k := by omega
        rw [hall] at hO hls
        have hHO := Lib.hid (And.intro hO (And.intro hls.out hb))
        clear hO hls hb hall
        go_wp2_with fail
        go_ret
        obtain ⟨hO, hls, hb⟩ := hHO.out
        obtain ⟨a, ha, hN⟩ := net_of hO hls hb.size
        exact ⟨a, by rw [ha]; rfl, hN, hb⟩
end Go.Proofs.Ytphebdmdbnpokaa.FL

