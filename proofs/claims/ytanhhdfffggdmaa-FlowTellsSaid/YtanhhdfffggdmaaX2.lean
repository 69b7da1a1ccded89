/- The walk of flow.Route. -/
import Derived.Test.YtanhhdfffggdmaaX1
import Derived.Test.YtanhhdfffggdmaaArr
namespace Go.Proofs.Ytanhhdfffggdmaa
open Go.RowKit FM
attribute [local go_sem] alloc_drewN setCell_drewN shape_drewN
attribute [local go_sem ↓] Go.wp_at_zero Go.wp_at_succ

theorem flowOf_get : ∀ {A : List Arc} {L : List Int} {k : Nat} {a : Arc}, Res A L → A[k]? = some a → (flowOf A L)[k]? = some (a.2.2 - L.getD (2 * k) 0)
  | b :: A, x :: y :: L, 0, a, _, h => by
    obtain rfl : b = a := by simpa using h
    rfl
  | b :: A, x :: y :: L, k + 1, a, hr, h => by
    have := flowOf_get (k := k) (a := a) hr.2.2.2 (by simpa using h)
    show (flowOf A L)[k]? = _
    rw [this, show 2 * (k + 1) = 2 * k + 1 + 1 by omega]
    rfl
  | [], _, k, a, _, h => by simp at h
  | _ :: _, [], _, _, hr, _ => by simp [Res] at hr
  | _ :: _, [_], _, _, hr, _ => by simp [Res] at hr
theorem flowOf_len {A : List Arc} {L : List Int} (h : Res A L) : (flowOf A L).length = A.length := feas_len h.feas
def RouteNo (w : World) (e : Ending) (w' : World) : Prop := e = .returned (.tuple #[.slice none 0 0, .bool false]) ∧ Below w.heap.size w w'
def RouteYes (w : World) (n : Nat) (A : List Arc) (s t : Int) (e : Ending) (w' : World) : Prop :=
  ∃ f v R vs, e = .returned (.tuple #[vs, .bool true]) ∧ MaxOf n A s t f v R ∧ 0 ≤ v ∧ v ≤ 4611686018427387904 ∧ IntSl w' vs f ∧ Below w.heap.size w w'
theorem route_no (n s t : Int) (C : Option Addr) (cc : Nat) (A : List Arc) (w : World) (hC : ArcsAt w w.heap.size C A) (hlen : A.length ≤ 9223372036854775807) (hv : validB n A s t = false) :
    Calls Try.prog 12 #[.int .i64 n, .slice C A.length cc, .int .i64 s, .int .i64 t] w (RouteNo w) := by
  have hcall := Lib.hid (valid_any n s t C cc A w hC hlen)
  have Hv := Lib.hid hv
  clear hv hlen
  go_enter Try.func12, Try.ntmps12
  go_wp2_with (go_at_call 19; refine hcall.out.mono ?_; rintro e1 w1 ⟨rfl, hb⟩; rw [Hv.out])
  go_ret2
  exact ⟨rfl, hb⟩
theorem IntSl.of_arr {w : World} {g : Nat} {l : List Int} (c : Nat) (h : Arr w g l.length (fun j => .int .i64 (l.getD j 0))) (hg : g < w.heap.size) : IntSl w (.slice (some ⟨g, 0, none⟩) l.length c) l :=
  ⟨_, c, rfl, fun _ => ⟨g, 0, rfl, hg, fun j hj => by rw [Nat.zero_add]; exact (h j hj).1⟩⟩

set_option maxHeartbeats 1000000 in
set_option maxRecDepth 10000 in
theorem route_yes (n s t : Nat) (C : Option Addr) (cc : Nat) (A : List Arc) (w : World) (hC : ArcsAt w w.heap.size C A) (hV : Valid n A s t) :
    Calls Try.prog 12 #[.int .i64 n, .slice C A.length cc, .int .i64 s, .int .i64 t] w (RouteYes w n A s t) := by
  obtain ⟨hA, hcap⟩ := valid_facts hV
  have hV' := hV
  obtain ⟨v1, v2, v3, _, v4, v5, v6, v7, v8⟩ := hV'
  have hcall := Lib.hid (valid_any n s t C cc A w hC (by omega))
  have Hv := Lib.hid (validB_true hV)
  obtain ⟨i0, hi, hz0, hz1, hz2⟩ := info_parts info3
  have hmk := fun wx => run_make1 (P := Try.prog) 23 3 i0 (.int .i64 0) Try.underlying23 hi hz0 hz1 rfl A.length A.length (Nat.le_refl _) (by rw [hz2]; omega) (by omega) wx
  clear hV
  go_enter Try.func12, Try.ntmps12
  go_wp2_with (go_at_call 19; refine hcall.out.mono ?_; rintro e1 w1 ⟨rfl, hb⟩; rw [Hv.out])
  have hcall2 := Lib.hid (open_any n C cc A w1 ((hC.below hb).more hb.size) v3 hA (by omega))
  go_wp2_with (go_at_call 20; refine hcall2.out.mono ?_; rintro e2 w2 ⟨a, rfl, hN, hb2⟩)
  have hcall3 := Lib.hid (fill_any s t hA v3 hcap (by omega) (by omega) (by omega) (by omega) hN (Nat.le_refl _) (L0_fl fun a ha => (hcap a ha).1))
  have hlo := hN.lo
  have hb3 : Below w.heap.size w w2 := hb.trans (hb2.mono hb.size)
  have hsz := hb3.size
  have hsz2 := hb2.size
  have hsz1 := hb.size
  go_wp2_with (go_at_call 21; refine hcall3.out.mono ?_; rintro e3 w3 ⟨v, L, D, rfl, g0, g1, hF, hB, hD, hN3, hK⟩)
  have hb4 : Below w.heap.size w w3 := hb3.trans (hK.below hsz (fun k hk => by rcases hk with rfl | rfl <;> omega))
  have hM3 := hK.size
  have hfl := flowOf_len hF.res
  have Hfl := Lib.hid hfl
  clear hfl hmk
  go_loopw [32] (fun i wr => ∃ k : Nat, k ≤ A.length ∧ i = .int .i64 k ∧ Arr wr w3.heap.size A.length (fun j => .int .i64 (if j < k then (flowOf A L).getD j 0 else 0)) ∧ Below w3.heap.size w3 wr ∧ w3.heap.size < wr.heap.size) (fun i _ => A.length - (intOf i).toNat)
  case atStart => exact ⟨0, Nat.zero_le _, rfl, (Arr.made w3 _ A.length 3).congr (fun j _ => by rw [if_neg (by omega)]), (Below.refl _ _).alloc (Nat.le_refl _) _, by simp⟩
  case round =>
    obtain ⟨k, hk, rfl, hArr, hbr, hgr⟩ := hrel
    by_cases hlt : k < A.length
    · have hbc := hb4.trans (hbr.mono hb4.size)
      obtain ⟨b, off, x, y, z, rfl, hbb, ha, c0, c1, c2⟩ := (hC.below hbc).at_ hlt
      obtain ⟨e1, e2, e3, e4, e5⟩ := hN3.edge (2 * k) (by omega)
      have x0 := hN3.x0
      rw [e1] at x0
      have hXl := hN3.hi.1
      have x0' : wr.cell? ⟨a.X, 0, none⟩ = _ := (hbr.cell (p := ⟨a.X, 0, none⟩) (by show a.X < _; omega)).trans x0
      have e4' : wr.cell? ⟨a.gE, 2 * k * 2 + 1, none⟩ = _ := (hbr.cell (p := ⟨a.gE, 2 * k * 2 + 1, none⟩) (by show a.gE < _; omega)).trans e4
      obtain ⟨m1, m2⟩ := hArr k hlt
      have x0a := (old_cell (.cells #[.int .i64 x, .int .i64 y, .int .i64 z] 37) (show a.X < wr.heap.size by omega)).trans x0'
      have e4a := (old_cell (.cells #[.int .i64 x, .int .i64 y, .int .i64 z] 37) (show a.gE < wr.heap.size by omega)).trans e4'
      have m1a := (old_cell (.cells #[.int .i64 x, .int .i64 y, .int .i64 z] 37) hgr).trans m1
      have m2a := (old_free (.cells #[.int .i64 x, .int .i64 y, .int .i64 z] 37) hgr).trans m2
      have hfg := flowOf_get hF.res ha.out
      obtain ⟨l, hl⟩ : ∃ l, l = L.getD (2 * k) 0 := ⟨_, rfl⟩
      rw [← hl] at e4' e4a hfg
      have hz : 0 ≤ z ∧ z ≤ 1125899906842624 := hcap _ (List.mem_of_getElem? ha.out)
      have hlb : 0 ≤ l ∧ l ≤ 1125899906842624 := by rw [hl]; exact ⟨hF.res.nonneg _, res_le (by omega) (fun a ha => (hcap a ha).2) hF.res _⟩
      have HH := Lib.hid (And.intro hl hfg)
      clear hl hfg x0 e4 e3 e5
      have wr1 : IntKind.i64.wrap (2 * (k : Int)) = 2 * (k : Int) := IntWalk.i64_in _ (by omega)
      have wr2 : IntKind.i64.wrap (z - l) = z - l := IntWalk.i64_in _ (by omega)
      have b3 : (2 * (k : Int)).toNat = 2 * k := by omega
      have b1 : 0 ≤ 2 * (k : Int) := by omega
      have b2 : 2 * (k : Int) < 2 * (A.length : Int) := by omega
      go_upto_region 9 with fail
      refine Plan.wp_region_plan (fun w' => w'.cell? ⟨a.X, 0, none⟩ = some (.slice (some ⟨a.gE, 0, none⟩) (2 * A.length) a.cE) ∧ w'.cell? ⟨a.gE, 2 * k * 2 + 1, none⟩ = some (.int .i64 l) ∧ w'.cell? ⟨wr.heap.size, 2, none⟩ = some (.int .i64 z)) 15 [(0, true), (1, true), (2, true), (3, true), (4, true), (5, true), (6, true), (7, true), (8, true), (9, true), (10, true), (11, true), (12, true), (13, true), (14, true), (15, false)] (by kernel_rfl) (by kernel_rfl) ?_ ?_
      · refine ⟨?_, ?_, ?_⟩ <;> go_simp
      (repeat (refine Plan.plan_read (v := ?_) rfl rfl ?_ ?_; rotate_left; (focus ((intro wS hSw; (try dsimp only at hSw); go_simp); try with_reducible rfl)); simp only [Act.put, List.setIfInBounds_toArray, List.set_cons_zero, List.set_cons_succ]))
      clear wr1 wr2 b3
      refine Plan.plan_last rfl (fun K hK => ?_)
      go_simp
      refine hK.out _ _ ?_
      clear hK K
      try simp only [Act.put, List.setIfInBounds_toArray, List.set_cons_zero, List.set_cons_succ]
      go_wp2_with fail
      go_roundw
      case rel =>
        obtain ⟨h1, h2⟩ := HH.out
        refine ⟨k + 1, by omega, by go_num, (((hArr.set hlt _).alloc (by simpa using hgr) _).drew).congr (fun j hj => ?_), ((hbr.setCell (p := ⟨w3.heap.size, k, none⟩) (Nat.le_refl _) _).alloc (by simp; omega) _).drew, by simp; omega⟩
        unfold updF
        by_cases e : j = k
        · subst e
          rw [if_pos rfl, if_pos (by omega), List.getD_eq_getElem?_getD, h2]
          rfl
        · rw [if_neg e]
          dsimp only
          by_cases q : j < k
          · rw [if_pos q, if_pos (by omega)]
          · rw [if_neg q, if_neg (by omega)]
      case measure => simp [intOf]; omega
    · obtain rfl : A.length = k := by omega
      go_wp2_with fail
      go_ret2
      refine ⟨_, v, _, _, rfl, max_of_dist hA hF.res hF.keeps hF.value (by omega) (by omega) hB.dist hD, g0, g1, ?_, hb4.trans (hbr.mono (hb4.size))⟩
      have := IntSl.of_arr A.length ((Hfl.out ▸ hArr).congr (G := fun j => .int .i64 ((flowOf A L).getD j 0)) (fun j hj => by rw [if_pos (by have := Hfl.out; omega)])) hgr
      rw [Hfl.out] at this
      exact this
end Go.Proofs.Ytanhhdfffggdmaa
