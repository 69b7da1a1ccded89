/- Joined of: FY3. -/
import Derived.Deep.AppendLies
import Derived.Deep.DeepCutAuto
import Derived.Deep.CutRange
import Derived.Test.YtphebdmdbnpokaaG02
import Derived.Test.YtphebdmdbnpokaaYMath
/- The walk of the reference's search. -/
set_option linter.unusedSimpArgs false
set_option linter.unusedVariables false
namespace Go.Proofs.Ytphebdmdbnpokaa.FL
open Go.RowKit FM
attribute [local go_sem] alloc_drewN setCell_drewN shape_drewN

def byV (by_ : Int → Int) (j : Nat) : Value := .int .i64 (by_ j)
theorem byV_upd {by_ : Int → Int} {u : Nat} {x : Int} : updF (byV by_) u (.int .i64 x) = byV (updI by_ u x) := by
  funext j
  unfold updF byV updI
  by_cases e : j = u
  · subst e; simp
  · rw [if_neg e, if_neg (by omega)]
theorem upd_ne {by_ : Int → Int} {u x v : Int} (h : by_ v ≠ -2) (hx : x ≠ -2) : updI by_ u x v ≠ -2 := by
  unfold updI; split
  · exact hx
  · exact h
/-- Between the two tests of a round: what is known of the queue, of the edges by which nodes are reached, and of the arc's own block g7. -/
def Step1 (w : World) (g7 g n x y : Nat) (z : Int) (A : List Arc) (L : List Int) (s : Int) (k i : Nat) (v : Int) (vq : Value) (wx : World) : Prop :=
  ∃ (q : List Int) (by_ : Int → Int), wx.ownsRow w.heap.size 3 1 vq q.length (q.map (Value.int .i64)) ∧ vq.ownBlock ≠ some g7 ∧ vq.ownBlock ≠ some g ∧ Rch n A L s by_ q ∧ Done A L by_ q k i ∧ q[k]? = some v ∧
    (fr A (2 * i) = v → 0 < L.getD (2 * i) 0 → by_ (toE A (2 * i)) ≠ -2) ∧ Arr wx g n (byV by_) ∧ Below w.heap.size w wx ∧ g < wx.heap.size ∧ g7 < wx.heap.size ∧ g ≠ g7 ∧
    wx.cell? ⟨g7, 0, none⟩ = some (.int .i64 x) ∧ wx.cell? ⟨g7, 1, none⟩ = some (.int .i64 y) ∧ wx.cell? ⟨g7, 2, none⟩ = some (.int .i64 z)
def ReachSaid (w : World) (n : Nat) (A : List Arc) (L : List Int) (s : Int) (e : Ending) (w' : World) : Prop :=
  ∃ g c by_ q, e = .returned (.slice (some ⟨g, 0, none⟩) n c) ∧ Found1 n A L s by_ q ∧ w.heap.size ≤ g ∧ g < w'.heap.size ∧ Arr w' g n (byV by_) ∧ Below w.heap.size w w'
def flowV (L : List Int) (i : Nat) : Value := .int .i64 (L.getD (2 * i + 1) 0)

set_option maxHeartbeats 4000000 in
set_option maxRecDepth 10000 in
theorem reach_any (n s : Nat) (C : Option Addr) (cc : Nat) (A : List Arc) (gF : Nat) (L : List Int) (w : World) (hC : ArcsAt w w.heap.size C A) (hF : Arr w gF A.length (flowV L)) (hgF : gF < w.heap.size) (hA : inN n A) (hm : A.length ≤ 4096) (hn : n ≤ 256) (hs : s < n) (hR : Res A L) (hcap : ∀ a ∈ A, 0 ≤ a.2.2 ∧ a.2.2 ≤ 1125899906842624) :
    Calls Try.prog 42 #[.int .i64 n, .slice C A.length cc, .int .i64 s, .slice (some ⟨gF, 0, none⟩) A.length A.length] w (ReachSaid w n A L s) := by
  obtain ⟨i0, hi, hz0, hz1, hz2⟩ := info_parts info3
  go_enter Try.func42, Try.ntmps42
  go_wp2_with fail
  go_loopw [9, 10] (fun u i wr => ∃ k : Nat, k ≤ n ∧ i = .int .i64 k ∧ wr.ownsRow w.heap.size 3 1 u k (List.replicate k (.int .i64 (-2))) ∧ Below w.heap.size w wr) (fun _ i _ => n - (intOf i).toNat)
  case atStart => exact ⟨0, Nat.zero_le _, rfl, ⟨rfl, .inl ⟨rfl, rfl⟩⟩, Below.refl _ _⟩
  case round =>
    obtain ⟨k, hk, rfl, hown, hbr⟩ := hrel
    by_cases hlt : k < n
    · have hsz := hbr.size
      have hbl := fun (q : Nat) (h : u9.ownBlock = some q) => (hown.lt q h).1
      go_wp2_with (at_builtin; refine wpList_append_lies _ rfl (.tmp 21) (.tmp 22) 29 rfl w.heap.size 3 i0 (.int .i64 0) 1 8 Try.underlying29 hi hz0 hz1 hz2 rfl (by decide) _ k (List.replicate k (.int .i64 (-2))) rfl (hown.alloc _) ⟨wr.heap.size, 0, none⟩ 1 1 [.int .i64 (-2)] rfl rfl (World.news_of_block (cs := #[.int .i64 (-2)]) (t := 3) (fr := (0, 0)) (block_new (w := wr) _ rfl)) (by simp [Value.oneCell']) (by omega) (by unfold maxLen; omega) (by omega) (by simp; omega) (wr.heap.size + 1) (by simp) ?_; intro g cap w3 hown3 hgrow hat hlt3)
      have hb3 : Below w.heap.size w w3 := (hbr.alloc hbr.size (.cells #[.int .i64 (-2)] 3)).grown hgrow (by simp; omega) (fun q h => hbl q h)
      rw [show List.replicate k (Value.int .i64 (-2)) ++ [.int .i64 (-2)] = List.replicate (k + 1) (.int .i64 (-2)) from List.replicate_succ'.symm] at hown3
      clear hown hbr hgrow hat hlt3 hbl
      go_roundw
      case rel => exact ⟨k + 1, by omega, by go_num, hown3, hb3⟩
      case measure => simp [intOf]; omega
    · obtain rfl : n = k := by omega
      obtain ⟨g, c, rfl, hg0, hg1⟩ := hown.form (by omega)
      have hArr0 : Arr wr g n (byV (fun _ => -2)) := fun j hj => ⟨by rw [hown.cellAt j (by omega)]; simp [byV, hj], hown.frozenAt j⟩
      obtain ⟨m1, m2⟩ := hArr0 s hs
      have hArr1 := hArr0.set hs (.int .i64 (-1))
      rw [byV_upd] at hArr1
      have hRch : Hid (Rch n A L s (updI (fun _ => -2) s (-1)) [(s : Int)]) := Rch.begin (by omega) (by omega)
      have hb1 := hbr.setCell (p := ⟨g, s, none⟩) hg0 (.int .i64 (-1))
      clear hown hArr0 hbr
      obtain ⟨w1, hw1⟩ : ∃ w1, w1 = wr.setCell ⟨g, s, none⟩ (.int .i64 (-1)) := ⟨_, rfl⟩
      have Hw1 := Lib.hid hw1
      rw [← hw1] at hArr1 hb1
      have hg1' : g < w1.heap.size := by rw [hw1]; simpa using hg1
      clear hw1
      go_wp2_with fail
      rw [← Hw1.out]
      have e1s : wr.heap.size = w1.heap.size := by rw [Hw1.out]; simp
      have hq0 := World.ownsRow_lit (base := w.heap.size) (e := 3) (size := 1) w1 #[.int .i64 s] 1 hb1.size (by decide) rfl
      rw [← e1s] at hq0
      go_loopw [11, 12] (fun vq kk wq => ∃ (k : Nat) (q : List Int) (by_ : Int → Int), k ≤ q.length ∧ kk = .int .i64 k ∧ wq.ownsRow w.heap.size 3 1 vq q.length (q.map (Value.int .i64)) ∧ Hid (vq.ownBlock ≠ some g) ∧ Hid (Rch n A L s by_ q ∧ Done A L by_ q k 0) ∧ Arr wq g n (byV by_) ∧ Below w.heap.size w wq ∧ g < wq.heap.size) (fun _ kk _ => n - (intOf kk).toNat)
      case atStart => exact ⟨0, [(s : Int)], _, Nat.zero_le _, rfl, hq0, fun e => by { have e : some wr.heap.size = some g := e; injection e with e; omega }, ⟨hRch.out, Done.begin _ _ _ _⟩, hArr1.alloc hg1' _, hb1.alloc hb1.size _, by simp; omega⟩
      case round =>
        clear hq0 e1s
        obtain ⟨k, q, by_, hk, rfl, hown, hfar, hInv, hArr, hbq, hgq⟩ := hrel
        have hql := nodup_len n q hInv.out.1.nd hInv.out.1.rng
        by_cases hlt : k < q.length
        · have hv : q[k]? = some q[k] := List.getElem?_eq_getElem hlt
          obtain ⟨v, hvv⟩ : ∃ v, v = q[k] := ⟨_, rfl⟩
          rw [← hvv] at hv
          obtain ⟨gq, cq, hform, hgq0, hgq1⟩ := hown.form (by omega)
          subst hform
          have hcv : wr.cell? ⟨gq, k, none⟩ = some (.int .i64 v) := by rw [hown.cellAt k (by omega)]; simp [hv]
          have Hv := Lib.hid hv
          clear hv hvv
          go_wp2_with fail
          go_loopw [11, 14] (fun vq ii wi => ∃ (i : Nat) (q2 : List Int) (by2 : Int → Int), i ≤ A.length ∧ ii = .int .i64 i ∧ wi.ownsRow w.heap.size 3 1 vq q2.length (q2.map (Value.int .i64)) ∧ Hid (vq.ownBlock ≠ some g) ∧ Hid (Rch n A L s by2 q2 ∧ Done A L by2 q2 k i ∧ q2[k]? = some v) ∧ Arr wi g n (byV by2) ∧ Below w.heap.size w wi ∧ g < wi.heap.size) (fun _ ii _ => A.length - (intOf ii).toNat)
          case atStart => exact ⟨0, q, by_, Nat.zero_le _, rfl, hown, hfar, ⟨hInv.out.1, hInv.out.2, Hv.out⟩, hArr, hbq, hgq⟩
          case round =>
            clear hInv hArr hbq hgq hown hfar hql hcv
            obtain ⟨i, q2, by2, hi2, rfl, hown, hfar, hInv, hArr, hbq, hgq⟩ := hrel
            by_cases hlt2 : i < A.length
            · have hql2 := nodup_len n q2 hInv.out.1.nd hInv.out.1.rng
              have hbq' := hbq
              obtain ⟨b, off, x, y, z, rfl, hbb, ha, c0, c1, c2⟩ := (hC.below hbq).at_ hlt2
              obtain ⟨cf, _⟩ := (hF.below hbq hgF) i hlt2
              obtain ⟨f, hf⟩ : ∃ f, f = L.getD (2 * i + 1) 0 := ⟨_, rfl⟩
              obtain ⟨g0, g1, g2, g3⟩ := hA _ (List.mem_of_getElem? ha.out)
              have g0 : 0 ≤ x := g0
              have g1 : x < n := g1
              have g2 : 0 ≤ y := g2
              have g3 : y < n := g3
              obtain ⟨x, hx'⟩ := Int.eq_ofNat_of_zero_le g0
              obtain ⟨y, hy'⟩ := Int.eq_ofNat_of_zero_le g2
              subst hx' hy'
              have hcz := hcap _ (List.mem_of_getElem? ha.out)
              have hcz : 0 ≤ z ∧ z ≤ 1125899906842624 := hcz
              have hr2 := res_two hR ha.out
              have hfr := fr_two ha.out
              have hn0 := hR.nonneg (2 * i)
              have hn1 := hR.nonneg (2 * i + 1)
              simp only [flowV, ← hf] at cf
              have hr2 : L.getD (2 * i) 0 + L.getD (2 * i + 1) 0 = z := hr2
              rw [← hf] at hr2 hn1
              have hfz : 0 ≤ f ∧ f ≤ z := by omega
              have HF := Lib.hid (And.intro hf (And.intro hr2 hfr))
              clear hf hr2 hfr hn0 hn1
              obtain ⟨dy, hdy⟩ : ∃ d, d = by2 y := ⟨_, rfl⟩
              obtain ⟨my, _⟩ := hArr y (by omega)
              simp only [byV, ← hdy] at my
              have mya := (old_cell (.cells #[.int .i64 x, .int .i64 y, .int .i64 z] 66) hgq).trans my
              have cfa := (old_cell (.cells #[.int .i64 x, .int .i64 y, .int .i64 z] 66) (show gF < wr.heap.size by have := hbq.size; omega)).trans cf
              have hi3 : 0 ≤ (i : Int) ∧ (i : Int) < (A.length : Int) := by omega
              obtain ⟨T1, hT1⟩ : ∃ T1, T1 = (decide ((x : Int) = v) && decide (dy = -2) && decide (f < z)) := ⟨_, rfl⟩
              have HT1 := Lib.hid (And.intro hdy hT1)
              clear hdy
              go_upto_region 16 with fail
              go_cut [69] from 39 to 111 (fun s69 wx => s69 = .bool T1 ∧ ∃ nq, wx = (wr.alloc (.cells #[.int .i64 x, .int .i64 y, .int .i64 z] 66)).drewN nq)
              case first =>
                by_cases t1 : (x : Int) = v
                · subst t1
                  by_cases t2 : dy = -2
                  · subst t2
                    by_cases t3 : f < z
                    · have e3 : T1 = true := by rw [hT1]; simp [t3]
                      have E3 := Lib.hid e3
                      clear hT1 e3
                      go_quiet (fail)
                      go_wp2_with fail
                      go_meet
                      exact ⟨by rw [E3.out], _, rfl⟩
                    · have e3 : T1 = false := by rw [hT1]; simp; omega
                      have t3' : decide (f < z) = false := by simp; omega
                      have E3 := Lib.hid e3
                      clear hT1 e3
                      go_quiet (fail)
                      go_wp2_with fail
                      go_meet
                      exact ⟨by rw [E3.out], _, rfl⟩
                  · have e3 : T1 = false := by rw [hT1]; simp [t2]
                    have t2' : (dy == -2) = false := by simp; exact t2
                    have E3 := Lib.hid e3
                    clear hT1 e3
                    go_quiet (fail)
                    go_wp2_with fail
                    go_meet
                    exact ⟨by rw [E3.out], _, rfl⟩
                · have e3 : T1 = false := by rw [hT1]; simp [t1]
                  have t1' : ((x : Int) == v) = false := by simp; exact t1
                  have E3 := Lib.hid e3
                  clear hT1 e3
                  go_quiet (fail)
                  go_wp2_with fail
                  go_meet
                  exact ⟨by rw [E3.out], _, rfl⟩
              case rest =>
                clear hT1
                obtain ⟨rfl, nq, rfl⟩ := hcut
                go_upto_if 69 with fail
                go_cut [11] from 39 to 111 (fun vq wx => Step1 w wr.heap.size g n x y z A L s k i v vq wx)
                case first =>
                  have hst0 : Hid (T1 = false → Step1 w wr.heap.size g n x y z A L s k i v u11 ((wr.alloc (.cells #[.int .i64 x, .int .i64 y, .int .i64 z] 66)).drewN nq)) := fun h => by
                    obtain ⟨i1, i2, i3⟩ := hInv.out
                    refine ⟨q2, by2, (hown.alloc _), fun e => by have := (hown.lt _ e).2; omega, hfar.out, i1, i2, i3, fun h1 h2 h3 => ?_, hArr.alloc hgq _, below_drewN (hbq.alloc hbq.size _) _, by simp; omega, by simp, by omega, ?_, ?_, ?_⟩
                    · obtain ⟨e1, e2⟩ := HT1.out
                      obtain ⟨f1, f2, f3, f4, f5, f6⟩ := HF.out
                      rw [f3] at h1
                      unfold toE at h3
                      rw [f4] at h3
                      have h1 : (x : Int) = v := h1
                      have h3 : by2 (y : Int) = -2 := h3
                      rw [h, e1, h3] at e2
                      simp [h1] at e2
                      omega
                    · rw [show ((wr.alloc _).drewN nq).cell? ⟨wr.heap.size, 0, none⟩ = (wr.alloc (.cells #[.int .i64 x, .int .i64 y, .int .i64 z] 66)).cell? ⟨wr.heap.size, 0, none⟩ from rfl, new_cell rfl]; rfl
                    · rw [show ((wr.alloc _).drewN nq).cell? ⟨wr.heap.size, 1, none⟩ = (wr.alloc (.cells #[.int .i64 x, .int .i64 y, .int .i64 z] 66)).cell? ⟨wr.heap.size, 1, none⟩ from rfl, new_cell rfl]; rfl
                    · rw [show ((wr.alloc _).drewN nq).cell? ⟨wr.heap.size, 2, none⟩ = (wr.alloc (.cells #[.int .i64 x, .int .i64 y, .int .i64 z] 66)).cell? ⟨wr.heap.size, 2, none⟩ from rfl, new_cell rfl]; rfl
                  cases T1
                  · go_wp2_with fail
                    go_meet
                    exact hst0.out (by trivial)
                  · obtain ⟨e1, e2⟩ := HT1.out
                    obtain ⟨f1, f2, f3, f4, f5, f6⟩ := HF.out
                    simp only [eq_comm (a := true), Bool.and_eq_true, decide_eq_true_eq] at e2
                    obtain ⟨⟨t1, t2⟩, t3⟩ := e2
                    obtain ⟨i1, i2, i3⟩ := hInv.out
                    have hadd := i1.add (e := 2 * i) (by omega) (by omega) hA i3 (by rw [f3]; exact t1) (by rw [f4]; show by2 (y : Int) = -2; omega)
                    have hdn := i2.upd (u := (y : Int)) (x := ((2 * i : Nat) : Int)) (List.getElem?_eq_some_iff.1 i3).1 (by omega)
                    rw [f4] at hadd
                    have HN := Lib.hid (And.intro hadd (And.intro hdn i3))
                    have hAr := hArr.set (show y < n by omega) (.int .i64 ((2 * i : Nat) : Int))
                    rw [byV_upd] at hAr
                    have c2i : ((2 * i : Nat) : Int) = 2 * (i : Int) := by omega
                    have C2i := Lib.hid c2i
                    rw [c2i] at hAr
                    have hown1 : (wr.setCell ⟨g, y, none⟩ (.int .i64 (2 * (i : Int)))).ownsRow w.heap.size 3 1 u11 q2.length (q2.map (Value.int .i64)) := owns_keep hown fun k e => Below.heap_setCell _ _ _ _ (fun c => hfar.out (by rw [e]; exact congrArg some c))
                    have hfr7 : u11.ownBlock ≠ some wr.heap.size := fun e => by have := (hown.lt _ e).2; omega
                    have hlt9 := fun q h => (hown.lt q h).1
                    obtain ⟨_, myf⟩ := hArr y (by omega)
                    have myfa := (old_free (.cells #[.int .i64 x, .int .i64 y, .int .i64 z] 66) hgq).trans myf
                    have ei : 0 ≤ 2 * (i : Int) ∧ 2 * (i : Int) ≤ 8192 := by omega
                    have hbB : Below w.heap.size w (wr.setCell ⟨g, y, none⟩ (.int .i64 (2 * (i : Int)))) := hbq.setCell hg0 _
                    clear e1 f1 f2 f3 f4 f5 f6 t1 t2 t3 i1 i2 i3 hadd hdn c2i hst0 hArr hown
                    go_wp2_with (at_builtin; refine wpList_append_lies _ rfl (.tmp 76) (.tmp 79) 29 rfl w.heap.size 3 i0 (.int .i64 0) 1 8 Try.underlying29 hi hz0 hz1 hz2 rfl (by decide) _ q2.length (q2.map (Value.int .i64)) rfl (by exact (hown1.alloc _).alloc _) ⟨wr.heap.size + 1, 0, none⟩ 1 1 [.int .i64 y] rfl rfl (by exact World.news_of_block (cs := #[.int .i64 y]) (t := 3) (fr := (0, 0)) (block_new (w := (wr.setCell ⟨g, y, none⟩ (.int .i64 (2 * (i : Int)))).alloc (.cells #[.int .i64 x, .int .i64 y, .int .i64 z] 66)) _ (by simp))) (by simp [Value.oneCell']) (by omega) (by unfold maxLen; omega) (by omega) (by have := hbq'.size; simp; omega) (wr.heap.size + 1 + 1) (by simp) ?_; intro g9 cap9 w9 hown9 hgrow9 hat9 hlt9')
                    go_meet
                    obtain ⟨hadd, hdn, i3⟩ := HN.out
                    rw [C2i.out] at hadd hdn
                    have hn7 : some wr.heap.size ≠ u11.ownBlock := fun e => hfr7 e.symm
                    have hng : some g ≠ u11.ownBlock := fun e => hfar.out e.symm
                    have hcf := fun o => hgrow9.cell_far ⟨wr.heap.size, o, none⟩ (by simp; omega) hn7
                    have hA9 : Arr w9 g n (byV (updI by2 y (2 * (i : Int)))) := ((hAr.alloc (by simpa using hgq) (.cells #[.int .i64 x, .int .i64 y, .int .i64 z] 66)).alloc (by simp; omega) (.cells #[.int .i64 y] 3)).keep (hgrow9.block g (by simp; omega) hng)
                    have hs9 := hgrow9.size
                    simp at hs9
                    refine ⟨q2 ++ [(y : Int)], _, by rw [List.length_append, List.map_append]; exact hown9, fun e => ?_, fun e => ?_, hadd, hdn, by rw [List.getElem?_append_left (List.getElem?_eq_some_iff.1 i3).1]; exact i3, fun _ _ => ?_, hA9, ((below_drewN ((hbB.alloc (by simpa using hbq'.size) _).alloc (by have := hbq'.size; simp; omega) _) _).grown hgrow9 (by have := hbq'.size; simp; omega) hlt9), by omega, by omega, by omega, ?_, ?_, ?_⟩
                    · obtain rfl : g9 = wr.heap.size := by simpa [Value.ownBlock] using e
                      rcases hat9 with h | h
                      · exact hfr7 h
                      · omega
                    · obtain rfl : g9 = g := by simpa [Value.ownBlock] using e
                      rcases hat9 with h | h
                      · exact hfar.out h
                      · omega
                    · unfold toE
                      rw [(fr_two ha.out).2.1]
                      show updI by2 (y : Int) (2 * (i : Int)) (y : Int) ≠ -2
                      rw [updI_same]; omega
                    · exact (hcf 0).trans (by show ((((wr.setCell _ _).alloc (.cells #[.int .i64 x, .int .i64 y, .int .i64 z] 66)).alloc _).cell? _) = _; rw [old_cell _ (by simp), new_cell (by simp)]; rfl)
                    · exact (hcf 1).trans (by show ((((wr.setCell _ _).alloc (.cells #[.int .i64 x, .int .i64 y, .int .i64 z] 66)).alloc _).cell? _) = _; rw [old_cell _ (by simp), new_cell (by simp)]; rfl)
                    · exact (hcf 2).trans (by show ((((wr.setCell _ _).alloc (.cells #[.int .i64 x, .int .i64 y, .int .i64 z] 66)).alloc _).cell? _) = _; rw [old_cell _ (by simp), new_cell (by simp)]; rfl)
                case rest =>
                  obtain ⟨q3, by3, hown3, hf7, hfg, hRc, hDn, hqk, h0, hAr3, hb3, hg3, hg73, hgg7, d0, d1, d2⟩ := hcut
                  have hql3 := nodup_len n q3 hRc.nd hRc.rng
                  obtain ⟨cf3, _⟩ := (hF.below hb3 hgF) i hlt2
                  obtain ⟨mx, mxf⟩ := hAr3 x (by omega)
                  obtain ⟨dx, hdx⟩ : ∃ d, d = by3 x := ⟨_, rfl⟩
                  simp only [byV, ← hdx] at mx
                  simp only [flowV, ← HF.out.1] at cf3
                  have HQ := Lib.hid (And.intro hRc (And.intro hDn (And.intro hqk (And.intro h0 hdx))))
                  obtain ⟨T2, hT2⟩ : ∃ T2, T2 = (decide ((y : Int) = v) && decide (dx = -2) && decide (0 < f)) := ⟨_, rfl⟩
                  have HT2 := Lib.hid hT2
                  clear hRc hDn hqk h0 hdx hInv hown hfar hArr hbq hgq my mya cfa c0 c1 c2 hql2 HT1 hbq' cf
                  go_upto_region 19 with fail
                  go_cut [99] from 39 to 111 (fun s99 wx => s99 = .bool T2 ∧ wx = wc)
                  case first =>
                    by_cases t1 : (y : Int) = v
                    · subst t1
                      by_cases t2 : dx = -2
                      · subst t2
                        by_cases t3 : 0 < f
                        · have e3 : T2 = true := by rw [hT2]; simp [t3]
                          have E3 := Lib.hid e3
                          clear hT2 e3
                          go_wp2_with fail
                          go_meet
                          exact ⟨by rw [E3.out], rfl⟩
                        · have e3 : T2 = false := by rw [hT2]; simp; omega
                          have E3 := Lib.hid e3
                          clear hT2 e3
                          go_wp2_with fail
                          go_meet
                          exact ⟨by rw [E3.out], rfl⟩
                      · have e3 : T2 = false := by rw [hT2]; simp [t2]
                        have t2' : (dx == -2) = false := by simp; exact t2
                        have E3 := Lib.hid e3
                        clear hT2 e3
                        go_wp2_with fail
                        go_meet
                        exact ⟨by rw [E3.out], rfl⟩
                    · have e3 : T2 = false := by rw [hT2]; simp [t1]
                      have t1' : ((y : Int) == v) = false := by simp; exact t1
                      have E3 := Lib.hid e3
                      clear hT2 e3
                      go_wp2_with fail
                      go_meet
                      exact ⟨by rw [E3.out], rfl⟩
                  case rest =>
                    clear hT2
                    obtain ⟨rfl, rfl⟩ := hcut
                    have hstep : Hid (T2 = false → Rch n A L s by3 q3 ∧ Done A L by3 q3 k (i + 1) ∧ q3[k]? = some v) := fun h => by
                      obtain ⟨i1, i2, i3, i4, i5⟩ := HQ.out
                      obtain ⟨f1, f2, f3, f4, f5, f6⟩ := HF.out
                      refine ⟨i1, i2.next i3 i4 (fun h1 h2 h3 => ?_), i3⟩
                      rw [f5] at h1
                      have h1 : (y : Int) = v := h1
                      have h3 : by3 (x : Int) = -2 := by have q := h3; rw [f6] at q; exact q
                      have e2 := HT2.out
                      rw [h, i5, h3] at e2
                      simp [h1] at e2
                      omega
                    cases T2
                    · go_wp2_with fail
                      go_roundw
                      case rel => exact ⟨i + 1, q3, by3, by omega, by go_num, hown3, hfg, hstep.out (by trivial), hAr3, hb3, hg3⟩
                      case measure => simp [intOf]; omega
                    · have e2 := HT2.out
                      obtain ⟨i1, i2, i3, i4, i5⟩ := HQ.out
                      obtain ⟨f1, f2, f3, f4, f5, f6⟩ := HF.out
                      simp only [eq_comm (a := true), Bool.and_eq_true, decide_eq_true_eq] at e2
                      obtain ⟨⟨t1, t2⟩, t3⟩ := e2
                      have hadd := i1.add (e := 2 * i + 1) (by omega) (by omega) hA i3 (by rw [f5]; exact t1) (by rw [f6]; show by3 (x : Int) = -2; omega)
                      have hdn := i2.upd (u := (x : Int)) (x := ((2 * i + 1 : Nat) : Int)) (List.getElem?_eq_some_iff.1 i3).1 (by omega)
                      rw [f6] at hadd
                      have i3' : (q3 ++ [(x : Int)])[k]? = some v := by rw [List.getElem?_append_left (List.getElem?_eq_some_iff.1 i3).1]; exact i3
                      have hdn2 := hdn.next i3' (fun h1 h2 => upd_ne (i4 h1 h2) (by omega)) (fun h1 h2 => by rw [f6, updI_same]; omega)
                      have HN := Lib.hid (And.intro hadd (And.intro hdn2 i3'))
                      have hAr := hAr3.set (show x < n by omega) (.int .i64 ((2 * i + 1 : Nat) : Int))
                      rw [byV_upd] at hAr
                      have c2i : ((2 * i + 1 : Nat) : Int) = 2 * (i : Int) + 1 := by omega
                      have C2i := Lib.hid c2i
                      rw [c2i] at hAr
                      have hown1 : (wc.setCell ⟨g, x, none⟩ (.int .i64 (2 * (i : Int) + 1))).ownsRow w.heap.size 3 1 _ q3.length (q3.map (Value.int .i64)) := owns_keep hown3 fun k e => Below.heap_setCell _ _ _ _ (fun c => hfg (by rw [e]; exact congrArg some c))
                      have hlt9 := fun q h => (hown3.lt q h).1
                      have ei : 0 ≤ 2 * (i : Int) ∧ 2 * (i : Int) ≤ 8192 := by omega
                      have hbs := hb3.size
                      have hbB : Below w.heap.size w (wc.setCell ⟨g, x, none⟩ (.int .i64 (2 * (i : Int) + 1))) := hb3.setCell hg0 _
                      clear f1 f2 f3 f4 f5 f6 t1 t2 t3 i1 i2 i3 i4 i5 hadd hdn hdn2 i3' c2i hstep hAr3 hown3
                      go_wp2_with (at_builtin; refine wpList_append_lies _ rfl (.tmp 107) (.tmp 110) 29 rfl w.heap.size 3 i0 (.int .i64 0) 1 8 Try.underlying29 hi hz0 hz1 hz2 rfl (by decide) _ q3.length (q3.map (Value.int .i64)) rfl (by exact (hown1.alloc _)) ⟨wc.heap.size, 0, none⟩ 1 1 [.int .i64 x] rfl rfl (by exact World.news_of_block (cs := #[.int .i64 x]) (t := 3) (fr := (0, 0)) (block_new (w := (wc.setCell ⟨g, x, none⟩ (.int .i64 (2 * (i : Int) + 1)))) _ (by simp))) (by simp [Value.oneCell']) (by omega) (by unfold maxLen; omega) (by omega) (by simp; omega) (wc.heap.size + 1) (by simp) ?_; intro g9 cap9 w9 hown9 hgrow9 hat9 hlt9')
                      obtain ⟨hadd, hdn, i3⟩ := HN.out
                      rw [C2i.out] at hadd hdn
                      have hng := fun e => hfg (Eq.symm e)
                      have hA9 : Arr w9 g n (byV (updI by3 x (2 * (i : Int) + 1))) := (hAr.alloc (by simpa using hg3) (.cells #[.int .i64 x] 3)).keep (hgrow9.block g (by simp; omega) hng)
                      have hs9 := hgrow9.size
                      simp at hs9
                      have hfin : Below w.heap.size w w9 := (hbB.alloc (by simpa using hbs) _).grown hgrow9 (by simp; omega) hlt9
                      have hf9 : Hid ((Value.slice (some ⟨g9, 0, none⟩) (q3.length + 1) cap9).ownBlock ≠ some g) := fun e => by
                        obtain rfl : g9 = g := by simpa [Value.ownBlock] using e
                        rcases hat9 with h | h
                        · exact hfg h
                        · omega
                      have HI9 : Hid (Rch n A L s (updI by3 x (2 * (i : Int) + 1)) (q3 ++ [(x : Int)]) ∧ Done A L (updI by3 x (2 * (i : Int) + 1)) (q3 ++ [(x : Int)]) k (i + 1) ∧ (q3 ++ [(x : Int)])[k]? = some v) := ⟨hadd, hdn, i3⟩
                      have hown9' : w9.ownsRow w.heap.size 3 1 (.slice (some ⟨g9, 0, none⟩) (q3.length + 1) cap9) (q3 ++ [(x : Int)]).length ((q3 ++ [(x : Int)]).map (Value.int .i64)) := by rw [List.length_append, List.map_append]; exact hown9
                      clear hadd hdn i3 hown9 hgrow9 hat9 hlt9' hAr hbB hown1 hlt9
                      go_roundw
                      case rel => exact ⟨i + 1, q3 ++ [(x : Int)], _, by omega, by go_num, hown9', hf9, HI9, hA9, hfin, by omega⟩
                      case measure => simp [intOf]; omega
            · have Hq := Lib.hid (And.intro hInv.out.1 (hInv.out.2.1.row (by omega)))
              have hql2 := nodup_len n q2 hInv.out.1.nd hInv.out.1.rng
              have hkl : k + 1 ≤ q2.length := (List.getElem?_eq_some_iff.1 hInv.out.2.2).1
              clear hInv
              go_wp2_with fail
              go_roundw
              case rel => exact ⟨k + 1, q2, by2, hkl, by go_num, hown, hfar, Hq, hArr, hbq, hgq⟩
              case measure => simp [intOf]; omega
        · have hlq : q.length ≤ k := by omega
          have HF := Lib.hid (found_of hA hInv.out.1 hInv.out.2 hlq)
          have hkq : k = q.length := by omega
          have hqpos : 0 < q.length := by have := (List.getElem?_eq_some_iff.1 hInv.out.1.head).1; exact this
          obtain ⟨gq, cq, hform, _, _⟩ := hown.form hqpos
          subst hform
          clear hInv
          subst hkq
          go_wp2_with fail
          go_ret
          exact ⟨g, c, by_, q, rfl, HF.out, hg0, hgq, hArr, hbq⟩
end Go.Proofs.Ytphebdmdbnpokaa.FL

