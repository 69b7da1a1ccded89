/- Joined of: SC0 SC SA SG0 SG SK. -/
import Derived.Deep.AppendLies
import Derived.Test.YthoigjkelinjhaaW3
import Derived.Test.YthoigjkelinjhaaG06
import Derived.Test.YthoigjkelinjhaaSP
import Derived.Test.YthoigjkelinjhaaLE
import Derived.Test.YthoigjkelinjhaaGM
import Derived.Test.YthoigjkelinjhaaG6
import Derived.Test.YthoigjkelinjhaaG05
/- Memory words of settle: triples, maps with them, entries. -/
set_option linter.unusedSimpArgs false
set_option linter.unusedVariables false
namespace Go.Proofs.Ythoigjkelinjhaa
open Go.RowKit CM

def t3C (t : SP.T3) : List Value := [.int .i64 t.1, .int .i64 t.2.1, .int .i64 t.2.2]
def t3V (t : SP.T3) : Value := .agg #[.int .i64 t.1, .int .i64 t.2.1, .int .i64 t.2.2]
def iV (i : Int) : Value := .int .i64 i
theorem t3_len (t : SP.T3) : (t3C t).length = 3 := rfl
theorem t3_one (A : List SP.T3) : ∀ u ∈ A.flatMap t3C, u.oneCell' = true := fun u hu => by
  obtain ⟨e, _, h⟩ := List.mem_flatMap.1 hu
  simp only [t3C, List.mem_cons, List.not_mem_nil, or_false] at h
  rcases h with rfl | rfl | rfl <;> rfl
theorem Try.eqT3 (x y : SP.T3) (w : World) : (Op.equal 74 (t3V x) (t3V y)).run Try.prog w = .ok (decide (x = y)) w := by
  have h : (Op.equalIn 10000 74 (t3V x) (t3V y)).run Try.prog w = .ok (decide (x = y)) w := by
    unfold t3V
    by_cases h1 : x.1 = y.1
    · have g1 : (x.1 == y.1) = true := by simpa using h1
      by_cases h2 : x.2.1 = y.2.1
      · have g2 : (x.2.1 == y.2.1) = true := by simpa using h2
        by_cases h3 : x.2.2 = y.2.2
        · rw [decide_eq_true (Prod.ext h1 (Prod.ext h2 h3))]
          have g3 : (x.2.2 == y.2.2) = true := by simpa using h3
          go_simp
        · rw [decide_eq_false (fun e => h3 (by rw [e]))]
          have g3 : (x.2.2 == y.2.2) = false := by simpa using h3
          go_simp
      · rw [decide_eq_false (fun e => h2 (by rw [e]))]
        have g2 : (x.2.1 == y.2.1) = false := by simpa using h2
        go_simp
    · rw [decide_eq_false (fun e => h1 (by rw [e]))]
      have g1 : (x.1 == y.1) = false := by simpa using h1
      go_simp
  exact h
theorem Try.keyT3 : KeyX Try.prog 74 t3V := by
  refine struct_keyX Try.underlying74 (fun em x w => ?_) Try.eqT3 (fun x => ?_)
  · have h : ∀ n, (Instr.checkKey em (n + 2) 74 (t3V x)).run Try.prog w = .ok () w := fun n => by
      unfold t3V
      rw [Instr.checkKey]
      simp [go_sem, run_underlying Try.underlying74, Instr.checkKey, Result.andThen]
    exact h 9998
  · simp [t3V, Instr.sameBits]
theorem Try.keyI : KeyX Try.prog 3 iV := int_keyX Try.underlying3
theorem Try.zeroT3 (w : World) : (zeroValue 74).run Try.prog w = .ok (t3V (0, 0, 0)) w := by kernel_rfl
theorem Try.zeroI (w : World) : (zeroValue 3).run Try.prog w = .ok (iV 0) w := by kernel_rfl
theorem Try.infoT3 : (Try.prog.info? 74).map (fun i => (i.zero, i.size, i.bytes)) = some (some (.agg #[.int .i64 0, .int .i64 0, .int .i64 0]), 3, 24) := by kernel_rfl
theorem Try.infoEnt : (Try.prog.info? 46).map (fun i => (i.zero, i.size, i.bytes)) = some (some (.agg #[.int .i64 0, .int .i64 0, .int .i64 0, .int .i64 0, .int .i64 0, .int .i64 0, .int .i64 0]), 7, 56) := by kernel_rfl
/-- A roster's triples. -/
def trs (R : List Rt) : List SP.T3 := R.map fun r => (r.id, r.owner, r.place)
/-- The shares of grants with a roster. -/
def shL (R : List Rt) (G : List (Int × Int)) : List (SP.T3 × Int) := SP.shares wrap64 (trs R) G
def SharesIs (S : List (SP.T3 × Int)) (w : World) (e : Ending) (w' : World) : Prop := ∃ C c b, e = .returned (.agg #[.slice C S.length c, .map (some b)]) ∧ RowAt t3C 3 w' w'.heap.size C (S.map (·.1)) ∧ MapX w' b t3V iV S ∧ Below w.heap.size w w'
section
theorem holder_snoc (l : List SP.T3) (t : SP.T3) (z : Int) : SP.holder (l ++ [t]) z = (SP.holder l z).or (if t.1 = z then some t else none) := by
  unfold SP.holder
  rw [List.find?_append]
  by_cases h : t.1 = z <;> simp [h]
theorem trs_take {R : List Rt} {k : Nat} {r : Rt} (h : R[k]? = some r) : (trs R).take (k + 1) = (trs R).take k ++ [(r.id, r.owner, r.place)] := by
  rw [List.take_add_one]
  unfold trs
  rw [List.getElem?_map, h]
  rfl
theorem shares_snoc (R : List SP.T3) (G : List (Int × Int)) (g : Int × Int) : SP.shares wrap64 R (G ++ [g]) = SP.step wrap64 R (SP.shares wrap64 R G) g := by
  unfold SP.shares; rw [List.foldl_append]; rfl
theorem take_snoc_p {α : Type} {G : List α} {k : Nat} {g : α} (h : G[k]? = some g) : G.take (k + 1) = G.take k ++ [g] := by rw [List.take_add_one, h]; rfl
theorem bump_len (m : List (SP.T3 × Int)) (t : SP.T3) (n : Int) : (SP.bump wrap64 m t n).length ≤ m.length + 1 := by
  induction m with
  | nil => simp [SP.bump]
  | cons x r ih =>
    unfold SP.bump
    split
    · simp
    · simp only [List.length_cons]; omega
theorem step_len (R : List SP.T3) (m : List (SP.T3 × Int)) (g : Int × Int) : (SP.step wrap64 R m g).length ≤ m.length + 1 := by
  unfold SP.step
  split
  · omega
  · split
    · omega
    · exact bump_len _ _ _
theorem shares_fold_len (R : List SP.T3) : ∀ (G : List (Int × Int)) (m : List (SP.T3 × Int)), (G.foldl (SP.step wrap64 R) m).length ≤ m.length + G.length
  | [], m => by simp
  | g :: G, m => by
    have h1 := shares_fold_len R G (SP.step wrap64 R m g)
    have h2 := step_len R m g
    rw [List.foldl_cons, List.length_cons]; omega
theorem shares_len (R : List SP.T3) (G : List (Int × Int)) : (SP.shares wrap64 R G).length ≤ G.length := by
  have := shares_fold_len R G []
  simpa [SP.shares] using this
/-- An amount more is a store to the map. -/
theorem bump_put (m : List (SP.T3 × Int)) (t : SP.T3) (n : Int) (hn : wrap64 n = n) : SP.bump wrap64 m t n = putX m t (wrap64 ((getX m t).getD 0 + n)) := by
  induction m with
  | nil => simp [SP.bump, putX, getX, hn]
  | cons x r ih =>
    unfold SP.bump putX getX
    by_cases h : x.1 = t
    · subst h; simp
    · have h2 : ¬ t = x.1 := fun e => h e.symm
      rw [if_neg h, if_neg h2, List.find?_cons]
      simp only [h2, decide_false]
      rw [ih]
      rfl
theorem putX_keys_old (m : List (SP.T3 × Int)) (t : SP.T3) (y : Int) (h : (getX m t).isSome = true) : (putX m t y).map (·.1) = m.map (·.1) := by
  induction m with
  | nil => simp [getX] at h
  | cons x r ih =>
    unfold putX
    by_cases e : t = x.1
    · rw [if_pos e]; simp [e]
    · rw [if_neg e, List.map_cons, List.map_cons, ih]
      unfold getX at h ⊢
      rw [List.find?_cons] at h
      simpa [e] using h
theorem putX_keys_new (m : List (SP.T3 × Int)) (t : SP.T3) (y : Int) (h : (getX m t).isSome = false) : (putX m t y).map (·.1) = m.map (·.1) ++ [t] := by
  induction m with
  | nil => simp [putX]
  | cons x r ih =>
    unfold putX
    by_cases e : t = x.1
    · subst e; simp [getX] at h
    · rw [if_neg e, List.map_cons, List.map_cons, ih]
      · rfl
      · unfold getX at h ⊢
        rw [List.find?_cons] at h
        simpa [e] using h
theorem row_map {w w1 : World} {n₀ e size k : Nat} {v : Value} {xs : List Value} (h : w.ownsRow n₀ e size v k xs) {b : Nat} (hb : b < n₀) (hg : w.grownBy w1 (some b)) : w1.ownsRow n₀ e size v k xs := h.kept hg (by
  rcases h.2 with ⟨rfl, _⟩ | ⟨g, cap, cur, rfl, hb', _, _⟩
  · exact .inl rfl
  · refine .inr ?_
    simp only [Value.ownBlock]
    intro e
    injection e with e
    omega)
theorem shares_end {w w' : World} {base e : Nat} {v : Value} {S : List (SP.T3 × Int)} {b : Nat} (hown : w'.ownsRow base e 3 v S.length ((S.map (·.1)).flatMap t3C)) (hM : MapX w' b t3V iV S) (hB : Below w.heap.size w w') : SharesIs S w (.returned (.agg #[v, .map (some b)])) w' := by
  obtain ⟨C, cc, hv, hr, _⟩ := rowk_of_owns t3_len (A := S.map (·.1)) (by simpa using hown)
  rw [List.length_map] at hv
  exact ⟨C, cc, b, by rw [hv], hr, hM, hB⟩
theorem own_lt2 {w : World} {n₀ e size k : Nat} {v : Value} {xs : List Value} (h : w.ownsRow n₀ e size v k xs) {g : Nat} (hg : v.ownBlock = some g) : n₀ ≤ g ∧ g < w.heap.size := h.lt g hg
end
end Go.Proofs.Ythoigjkelinjhaa

/- The walk of settle.collect: the shares of grants with a roster. (Printed by gen_sc.py.) -/
namespace Go.Proofs.Ythoigjkelinjhaa
open Go.RowKit CM
attribute [local go_sem] alloc_drewN setCell_drewN shape_drewN
theorem RT.far_cell {w : World} {p : Addr} {b o : Nat} {u : Value} (h : b ≠ p.block) : (w.setCell p u).cell? ⟨b, o, none⟩ = w.cell? ⟨b, o, none⟩ := World.cell?_of_block (a := ⟨b, o, none⟩) (Below.heap_setCell w p u b h)
theorem RT.box_first {w : World} {b : Nat} {x y : Value} {t : TypeId} (h : RT.Box w b #[x, y] t) (u : Value) : RT.Box (w.setCell ⟨b, 0, none⟩ u) b #[u, y] t := by
  unfold RT.Box at *
  simp [World.setCell, Array.getElem?_modify, h]
theorem RT.box_second {w : World} {b : Nat} {x y : Value} {t : TypeId} (h : RT.Box w b #[x, y] t) (u : Value) : RT.Box (w.setCell ⟨b, 1, none⟩ u) b #[x, u] t := by
  unfold RT.Box at *
  simp [World.setCell, Array.getElem?_modify, h]
set_option maxRecDepth 100000 in
set_option maxHeartbeats 8000000 in
theorem collect_any (R : List Rt) (G : List (Int × Int)) (C : Option Addr) (cr : Nat) (D : Option Addr) (cg : Nat) (w : World) {B : Nat} (hR : RightsAt w B C R) (hG : PairsAt w B D G) (hB : B ≤ w.heap.size) (hr : R.length ≤ 1000000) (hg : G.length ≤ 1000000) (hG64 : ∀ x ∈ G, In64 x.2) :
    Calls Try.prog 24 #[.slice C R.length cr, .slice D G.length cg] w (SharesIs (shL R G) w) := by
  obtain ⟨g0, gi, gz0, gz1, gz2⟩ := info_parts Try.infoT3
  have HRs := Lib.hid (fun (wr : World) (h : Below w.heap.size w wr) (k : Nat) (r : Rt) (hk : R[k]? = some r) => (hR.below (h.mono hB)).at_ hk)
  have HGs := Lib.hid (fun (wr : World) (h : Below w.heap.size w wr) (k : Nat) (r : Int × Int) (hk : G[k]? = some r) => (hG.below (h.mono hB)).at_ hk)
  have HG64 := Lib.hid hG64
  clear hR hG hG64
  have hmm := @run_makeMap Try.prog
  go_enter Try.func24, Try.ntmps24
  go_wp2_with fail
  go_loopw [20] (fun iv wr => ∃ (k : Nat) (m : List (Int × SP.T3)), k ≤ R.length ∧ iv = .int .i64 k ∧ MapX wr (w.heap.size + 1) iV t3V m ∧ Hid (∀ z, getX m z = SP.holder ((trs R).take k) z) ∧ RT.Box wr w.heap.size #[.slice none 0 0, .map none] 71 ∧ Below w.heap.size w wr ∧ w.heap.size + 2 ≤ wr.heap.size) (fun iv _ => R.length - (intOf iv).toNat)
  case atStart =>
    have h1 := MapX.made (w.alloc (.cells #[.slice none 0 0, .map none] 71)) iV t3V
    have h2 : Below (w.heap.size + 1) (w.alloc (.cells #[.slice none 0 0, .map none] 71)) ((w.alloc (.cells #[.slice none 0 0, .map none] 71)).alloc (.map #[] 0)) := (Below.refl _ _).alloc (by simp) _
    have h3 := (RT.Box.new w #[.slice none 0 0, .map none] 71).below h2 (by omega)
    exact ⟨0, [], Nat.zero_le _, rfl, by simpa using h1, Lib.hid (fun z => rfl), h3, ((Below.refl _ _).alloc (Nat.le_refl _) _).trans (h2.mono (by omega)), by simp⟩
  case round =>
    obtain ⟨k, m, hk, rfl, hM, hm, hX, hBw, hz⟩ := hrel
    by_cases hlt : k < R.length
    · obtain ⟨r, hx⟩ : ∃ r, R[k]? = some r := ⟨_, List.getElem?_eq_getElem hlt⟩
      obtain ⟨b, off, ec, hb, r0, r1, r2, r3, r4, r5, r6, r7, r8⟩ := HRs.out wr hBw k r hx
      subst ec
      have hbw : b < wr.heap.size := by have := hBw.size; omega
      have hN : Hid (∀ z, SP.holder ((trs R).take (k + 1)) z = (getX m z).or (if r.id = z then some (r.id, r.owner, r.place) else none)) := fun z => by rw [trs_take hx, holder_snoc, hm.out]
      have hwa : Below wr.heap.size wr (wr.alloc (.cells #[.int .i64 r.id, .int .i64 r.owner, .int .i64 r.date, .int .i64 r.place, .int .i64 r.rate, .int .i64 r.from1, .int .i64 r.until1, .int .i64 r.back, .int .i64 r.backTo] 49)) := below_new wr _
      have hlk := (hM.below hwa (by omega)).lookup_ok Try.keyI Try.underlying95 (Try.zeroT3 _) r.id
      have HM := Lib.hid hM
      clear hx hm hM
      cases hgx : getX m r.id with
      | none =>
        rw [hgx] at hlk
        simp only [Option.map_none, Option.getD_none, Option.isSome_none, iV, t3V] at hlk
        go_wp2_with (first | (at_mapUpdate; (refine wpList_putX _ rfl _ _ _ 95 rfl 3 74 Try.keyI Try.underlying95 (w.heap.size + 1) m rfl ((HM.out.below hwa (by omega)).below (below_new _ _) (by simp; omega)) r.id (r.id, r.owner, r.place) rfl rfl ?_); intro w3 hM3 hg3) | fail)
        have hb3 : Below (w.heap.size + 1) wr w3 := ((hwa.mono (by omega)).trans ((below_new _ _).mono (by simp; omega))).grown hg3 (by simp; omega) (fun g e => by injection e with e; omega)
        have hX3 := hX.below hb3 (by omega)
        have hB3 := hBw.trans (hb3.mono (by omega))
        have hz3 : w.heap.size + 2 ≤ w3.heap.size := by have := hb3.size; omega
        have hm3 : Hid (∀ z, getX (putX m r.id (r.id, r.owner, r.place)) z = SP.holder ((trs R).take (k + 1)) z) := fun z => by
          rw [hN.out, getX_put]
          by_cases e : z = r.id
          · subst e; rw [hgx]; simp
          · have e2 : ¬ r.id = z := fun q => e q.symm
            rw [if_neg e, if_neg e2]; simp
        clear hX hBw hg3 hb3 hwa hlk hgx hN r0 r1 r2 r3 r4 r5 r6 r7 r8
        go_roundw
        case rel => exact ⟨k + 1, _, by omega, by go_num, hM3, hm3, hX3, hB3, hz3⟩
        case measure => simp [intOf]; omega
      | some t =>
        rw [hgx] at hlk
        simp only [Option.map_some, Option.getD_some, Option.isSome_some, iV, t3V] at hlk
        have hwb : Below wr.heap.size wr ((wr.alloc (.cells #[.int .i64 r.id, .int .i64 r.owner, .int .i64 r.date, .int .i64 r.place, .int .i64 r.rate, .int .i64 r.from1, .int .i64 r.until1, .int .i64 r.back, .int .i64 r.backTo] 49)).alloc (.cells #[.int .i64 t.1, .int .i64 t.2.1, .int .i64 t.2.2] 74)) := hwa.trans ((below_new _ _).mono (by simp))
        go_wp2_with fail
        have hm3 : Hid (∀ z, getX m z = SP.holder ((trs R).take (k + 1)) z) := fun z => by
          rw [hN.out]
          by_cases e : r.id = z
          · subst e; rw [hgx]; simp
          · rw [if_neg e]; simp
        have hX3 := hX.below hwb (by omega)
        have hM3 := HM.out.below hwb (by omega)
        have hB3 := hBw.trans (hwb.mono (by omega))
        have hz3 : w.heap.size + 2 ≤ ((wr.alloc (.cells #[.int .i64 r.id, .int .i64 r.owner, .int .i64 r.date, .int .i64 r.place, .int .i64 r.rate, .int .i64 r.from1, .int .i64 r.until1, .int .i64 r.back, .int .i64 r.backTo] 49)).alloc (.cells #[.int .i64 t.1, .int .i64 t.2.1, .int .i64 t.2.2] 74)).heap.size := by have := hwb.size; omega
        clear hX hBw hwa hwb hlk hgx hN r0 r1 r2 r3 r4 r5 r6 r7 r8
        go_roundw
        case rel => exact ⟨k + 1, m, by omega, by go_num, hM3, hm3, hX3, hB3, hz3⟩
        case measure => simp [intOf]; omega
    · obtain rfl : k = R.length := by omega
      obtain ⟨w1, rfl⟩ : ∃ w1, w1 = wr := ⟨_, rfl⟩
      have HH : Hid (∀ z, getX m z = SP.holder (trs R) z) := fun z => by rw [hm.out, show R.length = (trs R).length by simp [trs], List.take_length]
      clear hm hlt hk HRs
      go_wp2_with fail
      clear hmm
      have HX0 := Lib.hid hX
      have HM0 := Lib.hid hM
      have HB0 := Lib.hid hBw
      have hz0 := hz
      clear hX hM hBw hz
      go_loopw [48] (fun iv wr => ∃ (k : Nat) (v : Value), k ≤ G.length ∧ iv = .int .i64 k ∧ MapX wr (w.heap.size + 1) iV t3V m ∧ MapS wr w1.heap.size t3V iV (SP.shares wrap64 (trs R) (G.take k)) ∧ RT.Box wr (w1.heap.size + 1) #[v, .map (some w1.heap.size)] 71 ∧ wr.ownsRow (w1.heap.size + 2) 74 3 v (SP.shares wrap64 (trs R) (G.take k)).length ((((SP.shares wrap64 (trs R) (G.take k))).map (·.1)).flatMap t3C) ∧ RT.Box wr w.heap.size #[.slice none 0 0, .map none] 71 ∧ Below w.heap.size w wr ∧ w1.heap.size + 2 ≤ wr.heap.size) (fun iv _ => G.length - (intOf iv).toNat)
      case atStart =>
        have hb1 : Below w1.heap.size w1 (w1.alloc (.map #[] 0)) := below_new w1 _
        have hb2 : Below (w1.heap.size + 1) (w1.alloc (.map #[] 0)) ((w1.alloc (.map #[] 0)).alloc (.cells #[.slice none 0 0, .map (some w1.heap.size)] 71)) := (Below.refl _ _).alloc (by simp) _
        have hb := hb1.trans (hb2.mono (by omega))
        have hbx := RT.Box.new (w1.alloc (.map #[] 0)) #[.slice none 0 0, .map (some w1.heap.size)] 71
        exact ⟨0, .slice none 0 0, Nat.zero_le _, rfl, HM0.out.below hb HM0.out.lt, (MapS.made w1 t3V iV).below hb2 (by omega), by simpa using hbx, World.ownsRow_nil _ _ _ _, HX0.out.below hb HX0.out.lt, HB0.out.trans (hb.mono HB0.out.size), by simp⟩
      case round =>
        clear HX0 HM0 HB0
        obtain ⟨k, v, hk, rfl, hM, hS, hBx, hown, hX, hBw, hz⟩ := hrel
        have hs0 : wr.cell? ⟨w1.heap.size + 1, 0, none⟩ = some v := hBx.cell rfl
        have hzl : w1.heap.size + 1 < wr.heap.size := by omega
        have hzl2 : w1.heap.size < wr.heap.size := by omega
        have hzl3 : w1.heap.size < wr.heap.size + 1 := by omega
        have hsf := hBx.free 0
        have hs1w : wr.cell? ⟨w1.heap.size + 1, 1, none⟩ = some (.map (some w1.heap.size)) := hBx.cell rfl
        by_cases hlt : k < G.length
        · obtain ⟨⟨gi1, gl⟩, hx⟩ : ∃ g, G[k]? = some g := ⟨_, List.getElem?_eq_getElem hlt⟩
          obtain ⟨b, off, ec, hb, c0, c1⟩ := HGs.out wr hBw k _ hx
          subst ec
          dsimp only at c0 c1
          have hgl64 : Hid (wrap64 gl = gl) := IntWalk.wrap64_in _ (HG64.out _ (List.mem_of_getElem? hx))
          have hbw : b < wr.heap.size := by have := hBw.size; omega
          have hstep : Hid ((SP.shares wrap64 (trs R) (G.take (k + 1))) = SP.step wrap64 (trs R) (SP.shares wrap64 (trs R) (G.take k)) (gi1, gl)) := by
            show _ = _
            rw [take_snoc_p hx, shares_snoc]
          have hSl : (SP.shares wrap64 (trs R) (G.take k)).length ≤ 1000000 := by have := shares_len (trs R) (G.take k); rw [List.length_take] at this; omega
          have hwa : Below wr.heap.size wr (wr.alloc (.cells #[.int .i64 gi1, .int .i64 gl] 61)) := below_new wr _
          have hlk0 := (hM.below hwa hM.lt).lookup_ok Try.keyI Try.underlying95 (Try.zeroT3 _) gi1
          clear hx
          cases hgx : getX m gi1 with
          | none =>
            rw [hgx] at hlk0
            simp only [Option.map_none, Option.getD_none, Option.isSome_none, iV, t3V] at hlk0
            have hNx : Hid ((SP.shares wrap64 (trs R) (G.take (k + 1))) = (SP.shares wrap64 (trs R) (G.take k))) := by
              show _ = _
              rw [hstep.out]
              unfold SP.step
              rw [← HH.out, hgx]
            clear hstep hgx hs0
            go_wp2_with fail
            have hwb : Below wr.heap.size wr ((wr.alloc (.cells #[.int .i64 gi1, .int .i64 gl] 61)).alloc (.cells #[.int .i64 0, .int .i64 0, .int .i64 0] 74)) := (below_new wr _).trans ((below_new _ _).mono (by simp))
            have hM3 := hM.below hwb hM.lt
            have hS3 := hS.below hwb hS.lt
            have hBx3 := hBx.below hwb hBx.lt
            have hX3 := hX.below hwb hX.lt
            have hB3 := hBw.trans (hwb.mono hBw.size)
            have hz3 : w1.heap.size + 2 ≤ ((wr.alloc (.cells #[.int .i64 gi1, .int .i64 gl] 61)).alloc (.cells #[.int .i64 0, .int .i64 0, .int .i64 0] 74)).heap.size := by have := hwb.size; omega
            have hown3 := row_below hown hwb
            rw [← hNx.out] at hS3 hown3
            clear hM hS hBx hX hBw hown hwb
            go_roundw
            case rel => exact ⟨k + 1, v, by omega, by go_num, hM3, hS3, hBx3, hown3, hX3, hB3, hz3⟩
            case measure => simp [intOf]; omega
          | some t =>
            obtain ⟨t1, t2, t3⟩ := t
            rw [hgx] at hlk0
            simp only [Option.map_some, Option.getD_some, Option.isSome_some, iV, t3V] at hlk0
            by_cases hgl : gl ≤ 0
            · have hNx : Hid ((SP.shares wrap64 (trs R) (G.take (k + 1))) = (SP.shares wrap64 (trs R) (G.take k))) := by
                show _ = _
                rw [hstep.out]
                unfold SP.step
                rw [← HH.out, hgx]
                exact if_pos hgl
              clear hstep hgx hs0
              go_wp2_with fail
              have hwb : Below wr.heap.size wr ((wr.alloc (.cells #[.int .i64 gi1, .int .i64 gl] 61)).alloc (.cells #[.int .i64 t1, .int .i64 t2, .int .i64 t3] 74)) := (below_new wr _).trans ((below_new _ _).mono (by simp))
              have hM3 := hM.below hwb hM.lt
              have hS3 := hS.below hwb hS.lt
              have hBx3 := hBx.below hwb hBx.lt
              have hX3 := hX.below hwb hX.lt
              have hB3 := hBw.trans (hwb.mono hBw.size)
              have hz3 : w1.heap.size + 2 ≤ ((wr.alloc (.cells #[.int .i64 gi1, .int .i64 gl] 61)).alloc (.cells #[.int .i64 t1, .int .i64 t2, .int .i64 t3] 74)).heap.size := by have := hwb.size; omega
              have hown3 := row_below hown hwb
              rw [← hNx.out] at hS3 hown3
              clear hM hS hBx hX hBw hown hwb
              go_roundw
              case rel => exact ⟨k + 1, v, by omega, by go_num, hM3, hS3, hBx3, hown3, hX3, hB3, hz3⟩
              case measure => simp [intOf]; omega
            · have hNx : Hid ((SP.shares wrap64 (trs R) (G.take (k + 1))) = SP.bump wrap64 (SP.shares wrap64 (trs R) (G.take k)) (t1, t2, t3) gl) := by
                show _ = _
                rw [hstep.out]
                unfold SP.step
                rw [← HH.out, hgx]
                exact if_neg hgl
              clear hstep hgx
              have hwb : Below wr.heap.size wr ((wr.alloc (.cells #[.int .i64 gi1, .int .i64 gl] 61)).alloc (.cells #[.int .i64 t1, .int .i64 t2, .int .i64 t3] 74)) := hwa.trans ((below_new _ _).mono (by simp))
              have hlk2 := (hS.toX.below hwb hS.lt).lookup_ok Try.keyT3 Try.underlying69 (Try.zeroI _) (t1, t2, t3)
              cases hgs : getX (SP.shares wrap64 (trs R) (G.take k)) (t1, t2, t3) with
              | none =>
                rw [hgs] at hlk2
                simp only [Option.map_none, Option.getD_none, Option.isSome_none, iV, t3V] at hlk2
                have hkeys : Hid (((SP.shares wrap64 (trs R) (G.take (k + 1)))).map (·.1) = ((SP.shares wrap64 (trs R) (G.take k))).map (·.1) ++ [(t1, t2, t3)] ∧ (SP.shares wrap64 (trs R) (G.take (k + 1))).length = (SP.shares wrap64 (trs R) (G.take k)).length + 1) := by
                  have e : ((SP.shares wrap64 (trs R) (G.take (k + 1)))).map (·.1) = ((SP.shares wrap64 (trs R) (G.take k))).map (·.1) ++ [(t1, t2, t3)] := by rw [hNx.out, bump_put _ _ _ hgl64.out]; exact putX_keys_new _ _ _ (by rw [hgs]; rfl)
                  refine ⟨e, ?_⟩
                  have := congrArg List.length e
                  simpa using this
                have hown1 := (row_below hown hwb).alloc (.cells #[.int .i64 t1, .int .i64 t2, .int .i64 t3] 74)
                clear hgs
                have hlo := fun g e => own_lt2 hown (g := g) e
                have hwc : Below wr.heap.size wr (((wr.alloc (.cells #[.int .i64 gi1, .int .i64 gl] 61)).alloc (.cells #[.int .i64 t1, .int .i64 t2, .int .i64 t3] 74)).alloc (.cells #[.int .i64 t1, .int .i64 t2, .int .i64 t3] 74)) := hwb.trans ((below_new _ _).mono (by simp; omega))
                go_upto_region 18 with (first | (at_builtin; go_loud (refine wpList_append_any _ rfl _ _ 68 rfl (w1.heap.size + 2) 74 g0 _ 3 24 Try.underlying68 gi gz0 gz1 gz2 rfl (by decide) _ (SP.shares wrap64 (trs R) (G.take k)).length _ rfl hown1 (wr.heap.size + 3) (some ⟨wr.heap.size + 2, 0, none⟩) 1 1 (t3C (t1, t2, t3)) rfl ⟨rfl, fun _ => ⟨_, rfl, Nat.lt_succ_self _, cells_at (by simp) _ _⟩⟩ (fun u hu => t3_one [(t1, t2, t3)] u (by simpa using hu)) (by unfold maxLen; omega) (by omega) (by simp <;> omega) ?_); intro v2 w5 hown5 hgr5 hat5; obtain ⟨C5, cc5, e5, _, _⟩ := rowk_of_owns t3_len (A := ((SP.shares wrap64 (trs R) (G.take k)).map (·.1)) ++ [(t1, t2, t3)]) (by rw [List.length_append, List.length_map, List.flatMap_append]; simpa using hown5); obtain ⟨n5, hn5⟩ : ∃ n5, (((SP.shares wrap64 (trs R) (G.take k)).map (·.1)) ++ [(t1, t2, t3)]).length = n5 := ⟨_, rfl⟩; rw [hn5] at e5; clear hn5 hat5; subst e5; have kb5 : w5.heap[w1.heap.size + 1]? = wr.heap[w1.heap.size + 1]? := (hgr5.block _ (by simp; omega) (fun e => by have := (hlo _ e.symm).1; omega)).trans (hwc.block _ (by omega)); have s5 := (hBx.keep kb5).cell (j := 0) rfl; have f5 := (hBx.keep kb5).free 0) | fail)
                generalize Value.slice C5 n5 cc5 = v2 at hown5 ⊢
                have hblk : ∀ b, b < w1.heap.size + 2 → w5.heap[b]? = wr.heap[b]? := fun b hb => (hgr5.block b (by simp; omega) (fun e => by have := (hlo _ e.symm).1; omega)).trans (hwc.block b (by omega))
                have hfar : ∀ b o, wr.heap.size ≤ b → b < wr.heap.size + 2 → w5.cell? ⟨b, o, none⟩ = ((wr.alloc (.cells #[.int .i64 gi1, .int .i64 gl] 61)).alloc (.cells #[.int .i64 t1, .int .i64 t2, .int .i64 t3] 74)).cell? ⟨b, o, none⟩ := fun b o h1 h2 => (Plan.grown_cells hgr5 b o (by simp; omega) (fun e => by have := (hlo _ e.symm).2; omega)).trans (World.cell?_alloc_lt _ _ ⟨b, o, none⟩ (by simp; omega))
                have kc0 : (w5.setCell ⟨w1.heap.size + 1, 0, none⟩ v2).cell? ⟨wr.heap.size + 1, 0, none⟩ = some (.int .i64 t1) := (RT.far_cell (by show wr.heap.size + 1 ≠ w1.heap.size + 1; omega)).trans ((hfar _ _ (by omega) (by omega)).trans (by rw [World.cell?_alloc_at _ _ _ _ (by simp)]; rfl))
                have kc1 : (w5.setCell ⟨w1.heap.size + 1, 0, none⟩ v2).cell? ⟨wr.heap.size + 1, 1, none⟩ = some (.int .i64 t2) := (RT.far_cell (by show wr.heap.size + 1 ≠ w1.heap.size + 1; omega)).trans ((hfar _ _ (by omega) (by omega)).trans (by rw [World.cell?_alloc_at _ _ _ _ (by simp)]; rfl))
                have kc2 : (w5.setCell ⟨w1.heap.size + 1, 0, none⟩ v2).cell? ⟨wr.heap.size + 1, 2, none⟩ = some (.int .i64 t3) := (RT.far_cell (by show wr.heap.size + 1 ≠ w1.heap.size + 1; omega)).trans ((hfar _ _ (by omega) (by omega)).trans (by rw [World.cell?_alloc_at _ _ _ _ (by simp)]; rfl))
                have gc1 : (w5.setCell ⟨w1.heap.size + 1, 0, none⟩ v2).cell? ⟨wr.heap.size, 1, none⟩ = some (.int .i64 gl) := (RT.far_cell (by show wr.heap.size ≠ w1.heap.size + 1; omega)).trans ((hfar _ _ (by omega) (by omega)).trans ((World.cell?_alloc_lt _ _ ⟨wr.heap.size, 1, none⟩ (by simp)).trans (by rw [World.cell?_alloc_at _ _ _ _ rfl]; rfl)))
                have hsw : ∀ b, b ≠ w1.heap.size + 1 → b < w1.heap.size + 2 → (w5.setCell ⟨w1.heap.size + 1, 0, none⟩ v2).heap[b]? = wr.heap[b]? := fun b h1 h2 => (Below.heap_setCell w5 _ v2 b h1).trans (hblk b h2)
                have hBx := RT.box_first (hBx.keep (hblk _ (by omega))) v2
                have hS := hS.keep (hsw _ (by omega) (by omega))
                have hX := hX.keep (hsw _ (by omega) (by omega))
                have hM := hM.keep (hsw _ (by omega) (by omega))
                have hown : (w5.setCell ⟨w1.heap.size + 1, 0, none⟩ v2).ownsRow (w1.heap.size + 2) 74 3 v2 (SP.shares wrap64 (trs R) (G.take (k + 1))).length ((((SP.shares wrap64 (trs R) (G.take (k + 1)))).map (·.1)).flatMap t3C) := by
                  rw [hkeys.out.1, hkeys.out.2, List.flatMap_append]
                  exact row_store (by simpa using hown5) (by show w1.heap.size + 1 < w1.heap.size + 2; omega) v2
                have hBW : Below w.heap.size w (w5.setCell ⟨w1.heap.size + 1, 0, none⟩ v2) := ((hBw.trans (hwc.mono hBw.size)).grown hgr5 (by simp; have := hBw.size; omega) (fun g e => by have := (hlo g e).1; omega)).setCell (by show w.heap.size ≤ w1.heap.size + 1; omega) v2
                have hzW : wr.heap.size + 2 ≤ (w5.setCell ⟨w1.heap.size + 1, 0, none⟩ v2).heap.size := by have := hgr5.size; simp at this ⊢; omega
                clear s5 f5 kb5 hlo hwc hblk hfar hsw hown1 hown5 hgr5 hlk2 hlk0 hwb hwa hkeys hs0 hs1w c0 c1
                generalize w5.setCell ⟨w1.heap.size + 1, 0, none⟩ v2 = W at hBx hS hX hM hown hBW hzW kc0 kc1 kc2 gc1 ⊢
                have hs1 : W.cell? ⟨w1.heap.size + 1, 1, none⟩ = some (.map (some w1.heap.size)) := hBx.cell rfl
                obtain ⟨n, hn⟩ : ∃ n, (getX (SP.shares wrap64 (trs R) (G.take k)) (t1, t2, t3)).getD 0 = n := ⟨_, rfl⟩
                have hlk : (Instr.lookup 69 (.map (some w1.heap.size)) (.agg #[.int .i64 t1, .int .i64 t2, .int .i64 t3]) false).run Try.prog W.drew = .ok (.int .i64 n) W.drew := by
                  have h := (hS.toX.keep (w1 := W.drew) rfl).lookup Try.keyT3 Try.underlying69 (Try.zeroI _) (t1, t2, t3)
                  rw [show ((getX (SP.shares wrap64 (trs R) (G.take k)) (t1, t2, t3)).map iV).getD (iV 0) = iV n by rw [← hn]; cases getX (SP.shares wrap64 (trs R) (G.take k)) (t1, t2, t3) <;> rfl] at h
                  exact h
                obtain ⟨W1, st, m1, he, hgr1, hsz1, hM1, hget1, hstore⟩ := (hS.keep (w1 := W.drew) rfl).entry Try.keyT3 Try.underlying69 Try.zeroI (t1, t2, t3)
                obtain ⟨W2, he2, hS2, hgr2⟩ := hstore W1 (IntKind.i64.wrap (n + gl)) rfl
                rw [hn] at he hget1
                have hlk1 : (Instr.lookup 69 (.map (some w1.heap.size)) (.agg #[.int .i64 t1, .int .i64 t2, .int .i64 t3]) false).run Try.prog W1 = .ok (.int .i64 n) W1 := by
                  have h := hM1.lookup Try.keyT3 Try.underlying69 (Try.zeroI _) (t1, t2, t3)
                  rw [hget1] at h
                  exact h
                have cf := Plan.grown_cells hgr1
                have hs1' : W1.cell? ⟨w1.heap.size + 1, 1, none⟩ = some (.map (some w1.heap.size)) := (cf _ _ hBx.lt (by simp)).trans hs1
                have kc0' : W1.cell? ⟨wr.heap.size + 1, 0, none⟩ = some (.int .i64 t1) := (cf _ _ (by show wr.heap.size + 1 < W.heap.size; omega) (by simp; omega)).trans kc0
                have kc1' : W1.cell? ⟨wr.heap.size + 1, 1, none⟩ = some (.int .i64 t2) := (cf _ _ (by show wr.heap.size + 1 < W.heap.size; omega) (by simp; omega)).trans kc1
                have kc2' : W1.cell? ⟨wr.heap.size + 1, 2, none⟩ = some (.int .i64 t3) := (cf _ _ (by show wr.heap.size + 1 < W.heap.size; omega) (by simp; omega)).trans kc2
                have gc1' : W1.cell? ⟨wr.heap.size, 1, none⟩ = some (.int .i64 gl) := (cf _ _ (by show wr.heap.size < W.heap.size; omega) (by simp; omega)).trans gc1
                have hSN : MapS W2 w1.heap.size t3V iV (SP.shares wrap64 (trs R) (G.take (k + 1))) := by
                  have e : (SP.shares wrap64 (trs R) (G.take (k + 1))) = putX (SP.shares wrap64 (trs R) (G.take k)) (t1, t2, t3) (wrap64 (n + gl)) := by rw [hNx.out, bump_put _ _ _ hgl64.out, hn]
                  rw [e, ← IntWalk.i64_left]; exact hS2
                have hz2 : W.heap.size ≤ W2.heap.size := by have h1 := hgr1.size; have h2 := hgr2.size; exact Nat.le_trans h1 h2
                have hbW : ∀ b, b < W.heap.size → b ≠ w1.heap.size → W2.heap[b]? = W.heap[b]? := fun b h1 h2 => (hgr2.block b (Nat.lt_of_lt_of_le h1 hgr1.size) (by simpa using h2)).trans (hgr1.block b h1 (by simpa using h2))
                have hBxN := hBx.keep (hbW _ hBx.lt (by omega))
                have hXN := hX.keep (hbW _ hX.lt (by omega))
                have hMN := hM.keep (hbW _ hM.lt (by omega))
                have hownN : W2.ownsRow (w1.heap.size + 2) 74 3 v2 (SP.shares wrap64 (trs R) (G.take (k + 1))).length ((((SP.shares wrap64 (trs R) (G.take (k + 1)))).map (·.1)).flatMap t3C) := row_map (row_map (w := W.drew) hown.drew (by omega) hgr1) (by omega) hgr2
                have hBN : Below w.heap.size w W2 := ((hBW.drew).grown hgr1 (by show w.heap.size ≤ W.heap.size; exact hBW.size) (fun g e => by injection e with e; omega)).grown hgr2 (by rw [hsz1]; exact hBW.size) (fun g e => by injection e with e; omega)
                have hzN : w1.heap.size + 2 ≤ W2.heap.size := by omega
                simp only [iV, t3V, goInt] at he he2
                clear hS hBx hX hM hown hBW hstore hM1 hget1 hgr1 hgr2 hsz1 cf hS2 hbW
                refine Plan.wp_region_plan (fun wx => wx.cell? ⟨w1.heap.size + 1, 1, none⟩ = some (.map (some w1.heap.size)) ∧ wx.cell? ⟨wr.heap.size + 1, 0, none⟩ = some (.int .i64 t1) ∧ wx.cell? ⟨wr.heap.size + 1, 1, none⟩ = some (.int .i64 t2) ∧ wx.cell? ⟨wr.heap.size + 1, 2, none⟩ = some (.int .i64 t3) ∧ wx.cell? ⟨wr.heap.size, 1, none⟩ = some (.int .i64 gl) ∧ (Instr.lookup 69 (.map (some w1.heap.size)) (.agg #[.int .i64 t1, .int .i64 t2, .int .i64 t3]) false).run Try.prog wx = .ok (.int .i64 n) wx) 9 [(0, true), (1, true), (2, true), (3, true), (4, true), (5, true), (6, true), (7, false), (8, true), (9, false)] (by kernel_rfl) (by kernel_rfl) ⟨hs1, kc0, kc1, kc2, gc1, hlk⟩ ?_
                (repeat (refine Plan.plan_read (v := ?_) rfl rfl ?_ ?_; rotate_left; (focus ((intro wS hSw; (try dsimp only at hSw); go_simp); try with_reducible rfl)); simp only [Act.put, List.setIfInBounds_toArray, List.set_cons_zero, List.set_cons_succ]))
                refine Plan.plan_write rfl (fun K hK => ?_)
                go_simp
                refine hK.out _ _ ⟨hs1', kc0', kc1', kc2', gc1', hlk1⟩ ?_
                clear hK K
                try simp only [Act.put, List.setIfInBounds_toArray, List.set_cons_zero, List.set_cons_succ]
                (repeat (refine Plan.plan_read (v := ?_) rfl rfl ?_ ?_; rotate_left; (focus ((intro wS hSw; (try dsimp only at hSw); go_simp); try with_reducible rfl)); simp only [Act.put, List.setIfInBounds_toArray, List.set_cons_zero, List.set_cons_succ]))
                refine Plan.plan_last rfl (fun K hK => ?_)
                go_simp
                refine hK.out _ _ ?_
                clear hK K
                try simp only [Act.put, List.setIfInBounds_toArray, List.set_cons_zero, List.set_cons_succ]
                go_wp2_with fail
                clear hs1 hs1' kc0 kc1 kc2 kc0' kc1' kc2' gc1 gc1' hlk hlk1 he he2
                go_roundw
                case rel => exact ⟨k + 1, v2, by omega, by go_num, hMN, hSN, hBxN, hownN, hXN, hBN, hzN⟩
                case measure => simp [intOf]; omega
              | some y0 =>
                rw [hgs] at hlk2
                simp only [Option.map_some, Option.getD_some, Option.isSome_some, iV, t3V] at hlk2
                have hkeys : Hid (((SP.shares wrap64 (trs R) (G.take (k + 1)))).map (·.1) = ((SP.shares wrap64 (trs R) (G.take k))).map (·.1) ∧ (SP.shares wrap64 (trs R) (G.take (k + 1))).length = (SP.shares wrap64 (trs R) (G.take k)).length) := by
                  have e : ((SP.shares wrap64 (trs R) (G.take (k + 1)))).map (·.1) = ((SP.shares wrap64 (trs R) (G.take k))).map (·.1) := by rw [hNx.out, bump_put _ _ _ hgl64.out]; exact putX_keys_old _ _ _ (by rw [hgs]; rfl)
                  refine ⟨e, ?_⟩
                  have := congrArg List.length e
                  simpa using this
                clear hgs
                go_upto_region 18 with fail
                obtain ⟨v2, rfl⟩ : ∃ v2, v2 = v := ⟨_, rfl⟩
                have kc0 : (((wr.alloc (.cells #[.int .i64 gi1, .int .i64 gl] 61)).alloc (.cells #[.int .i64 t1, .int .i64 t2, .int .i64 t3] 74))).cell? ⟨wr.heap.size + 1, 0, none⟩ = some (.int .i64 t1) := by rw [World.cell?_alloc_at _ _ _ _ (by simp)]; rfl
                have kc1 : (((wr.alloc (.cells #[.int .i64 gi1, .int .i64 gl] 61)).alloc (.cells #[.int .i64 t1, .int .i64 t2, .int .i64 t3] 74))).cell? ⟨wr.heap.size + 1, 1, none⟩ = some (.int .i64 t2) := by rw [World.cell?_alloc_at _ _ _ _ (by simp)]; rfl
                have kc2 : (((wr.alloc (.cells #[.int .i64 gi1, .int .i64 gl] 61)).alloc (.cells #[.int .i64 t1, .int .i64 t2, .int .i64 t3] 74))).cell? ⟨wr.heap.size + 1, 2, none⟩ = some (.int .i64 t3) := by rw [World.cell?_alloc_at _ _ _ _ (by simp)]; rfl
                have gc1 : (((wr.alloc (.cells #[.int .i64 gi1, .int .i64 gl] 61)).alloc (.cells #[.int .i64 t1, .int .i64 t2, .int .i64 t3] 74))).cell? ⟨wr.heap.size, 1, none⟩ = some (.int .i64 gl) := (World.cell?_alloc_lt _ _ ⟨wr.heap.size, 1, none⟩ (by simp)).trans (by rw [World.cell?_alloc_at _ _ _ _ rfl]; rfl)
                have hBx := hBx.below hwb hBx.lt
                have hS := hS.below hwb hS.lt
                have hX := hX.below hwb hX.lt
                have hM := hM.below hwb hM.lt
                have hown : (((wr.alloc (.cells #[.int .i64 gi1, .int .i64 gl] 61)).alloc (.cells #[.int .i64 t1, .int .i64 t2, .int .i64 t3] 74))).ownsRow (w1.heap.size + 2) 74 3 v2 (SP.shares wrap64 (trs R) (G.take (k + 1))).length ((((SP.shares wrap64 (trs R) (G.take (k + 1)))).map (·.1)).flatMap t3C) := by
                  rw [hkeys.out.1, hkeys.out.2]
                  exact row_below hown hwb
                have hBW := hBw.trans (hwb.mono hBw.size)
                have hzW : wr.heap.size + 2 ≤ (((wr.alloc (.cells #[.int .i64 gi1, .int .i64 gl] 61)).alloc (.cells #[.int .i64 t1, .int .i64 t2, .int .i64 t3] 74))).heap.size := by simp
                clear hlk2 hlk0 hwb hwa hkeys hs0 hs1w c0 c1
                generalize ((wr.alloc (.cells #[.int .i64 gi1, .int .i64 gl] 61)).alloc (.cells #[.int .i64 t1, .int .i64 t2, .int .i64 t3] 74)) = W at hBx hS hX hM hown hBW hzW kc0 kc1 kc2 gc1 ⊢
                have hs1 : W.cell? ⟨w1.heap.size + 1, 1, none⟩ = some (.map (some w1.heap.size)) := hBx.cell rfl
                obtain ⟨n, hn⟩ : ∃ n, (getX (SP.shares wrap64 (trs R) (G.take k)) (t1, t2, t3)).getD 0 = n := ⟨_, rfl⟩
                have hlk : (Instr.lookup 69 (.map (some w1.heap.size)) (.agg #[.int .i64 t1, .int .i64 t2, .int .i64 t3]) false).run Try.prog W.drew = .ok (.int .i64 n) W.drew := by
                  have h := (hS.toX.keep (w1 := W.drew) rfl).lookup Try.keyT3 Try.underlying69 (Try.zeroI _) (t1, t2, t3)
                  rw [show ((getX (SP.shares wrap64 (trs R) (G.take k)) (t1, t2, t3)).map iV).getD (iV 0) = iV n by rw [← hn]; cases getX (SP.shares wrap64 (trs R) (G.take k)) (t1, t2, t3) <;> rfl] at h
                  exact h
                obtain ⟨W1, st, m1, he, hgr1, hsz1, hM1, hget1, hstore⟩ := (hS.keep (w1 := W.drew) rfl).entry Try.keyT3 Try.underlying69 Try.zeroI (t1, t2, t3)
                obtain ⟨W2, he2, hS2, hgr2⟩ := hstore W1 (IntKind.i64.wrap (n + gl)) rfl
                rw [hn] at he hget1
                have hlk1 : (Instr.lookup 69 (.map (some w1.heap.size)) (.agg #[.int .i64 t1, .int .i64 t2, .int .i64 t3]) false).run Try.prog W1 = .ok (.int .i64 n) W1 := by
                  have h := hM1.lookup Try.keyT3 Try.underlying69 (Try.zeroI _) (t1, t2, t3)
                  rw [hget1] at h
                  exact h
                have cf := Plan.grown_cells hgr1
                have hs1' : W1.cell? ⟨w1.heap.size + 1, 1, none⟩ = some (.map (some w1.heap.size)) := (cf _ _ hBx.lt (by simp)).trans hs1
                have kc0' : W1.cell? ⟨wr.heap.size + 1, 0, none⟩ = some (.int .i64 t1) := (cf _ _ (by show wr.heap.size + 1 < W.heap.size; omega) (by simp; omega)).trans kc0
                have kc1' : W1.cell? ⟨wr.heap.size + 1, 1, none⟩ = some (.int .i64 t2) := (cf _ _ (by show wr.heap.size + 1 < W.heap.size; omega) (by simp; omega)).trans kc1
                have kc2' : W1.cell? ⟨wr.heap.size + 1, 2, none⟩ = some (.int .i64 t3) := (cf _ _ (by show wr.heap.size + 1 < W.heap.size; omega) (by simp; omega)).trans kc2
                have gc1' : W1.cell? ⟨wr.heap.size, 1, none⟩ = some (.int .i64 gl) := (cf _ _ (by show wr.heap.size < W.heap.size; omega) (by simp; omega)).trans gc1
                have hSN : MapS W2 w1.heap.size t3V iV (SP.shares wrap64 (trs R) (G.take (k + 1))) := by
                  have e : (SP.shares wrap64 (trs R) (G.take (k + 1))) = putX (SP.shares wrap64 (trs R) (G.take k)) (t1, t2, t3) (wrap64 (n + gl)) := by rw [hNx.out, bump_put _ _ _ hgl64.out, hn]
                  rw [e, ← IntWalk.i64_left]; exact hS2
                have hz2 : W.heap.size ≤ W2.heap.size := by have h1 := hgr1.size; have h2 := hgr2.size; exact Nat.le_trans h1 h2
                have hbW : ∀ b, b < W.heap.size → b ≠ w1.heap.size → W2.heap[b]? = W.heap[b]? := fun b h1 h2 => (hgr2.block b (Nat.lt_of_lt_of_le h1 hgr1.size) (by simpa using h2)).trans (hgr1.block b h1 (by simpa using h2))
                have hBxN := hBx.keep (hbW _ hBx.lt (by omega))
                have hXN := hX.keep (hbW _ hX.lt (by omega))
                have hMN := hM.keep (hbW _ hM.lt (by omega))
                have hownN : W2.ownsRow (w1.heap.size + 2) 74 3 v2 (SP.shares wrap64 (trs R) (G.take (k + 1))).length ((((SP.shares wrap64 (trs R) (G.take (k + 1)))).map (·.1)).flatMap t3C) := row_map (row_map (w := W.drew) hown.drew (by omega) hgr1) (by omega) hgr2
                have hBN : Below w.heap.size w W2 := ((hBW.drew).grown hgr1 (by show w.heap.size ≤ W.heap.size; exact hBW.size) (fun g e => by injection e with e; omega)).grown hgr2 (by rw [hsz1]; exact hBW.size) (fun g e => by injection e with e; omega)
                have hzN : w1.heap.size + 2 ≤ W2.heap.size := by omega
                simp only [iV, t3V, goInt] at he he2
                clear hS hBx hX hM hown hBW hstore hM1 hget1 hgr1 hgr2 hsz1 cf hS2 hbW
                refine Plan.wp_region_plan (fun wx => wx.cell? ⟨w1.heap.size + 1, 1, none⟩ = some (.map (some w1.heap.size)) ∧ wx.cell? ⟨wr.heap.size + 1, 0, none⟩ = some (.int .i64 t1) ∧ wx.cell? ⟨wr.heap.size + 1, 1, none⟩ = some (.int .i64 t2) ∧ wx.cell? ⟨wr.heap.size + 1, 2, none⟩ = some (.int .i64 t3) ∧ wx.cell? ⟨wr.heap.size, 1, none⟩ = some (.int .i64 gl) ∧ (Instr.lookup 69 (.map (some w1.heap.size)) (.agg #[.int .i64 t1, .int .i64 t2, .int .i64 t3]) false).run Try.prog wx = .ok (.int .i64 n) wx) 9 [(0, true), (1, true), (2, true), (3, true), (4, true), (5, true), (6, true), (7, false), (8, true), (9, false)] (by kernel_rfl) (by kernel_rfl) ⟨hs1, kc0, kc1, kc2, gc1, hlk⟩ ?_
                (repeat (refine Plan.plan_read (v := ?_) rfl rfl ?_ ?_; rotate_left; (focus ((intro wS hSw; (try dsimp only at hSw); go_simp); try with_reducible rfl)); simp only [Act.put, List.setIfInBounds_toArray, List.set_cons_zero, List.set_cons_succ]))
                refine Plan.plan_write rfl (fun K hK => ?_)
                go_simp
                refine hK.out _ _ ⟨hs1', kc0', kc1', kc2', gc1', hlk1⟩ ?_
                clear hK K
                try simp only [Act.put, List.setIfInBounds_toArray, List.set_cons_zero, List.set_cons_succ]
                (repeat (refine Plan.plan_read (v := ?_) rfl rfl ?_ ?_; rotate_left; (focus ((intro wS hSw; (try dsimp only at hSw); go_simp); try with_reducible rfl)); simp only [Act.put, List.setIfInBounds_toArray, List.set_cons_zero, List.set_cons_succ]))
                refine Plan.plan_last rfl (fun K hK => ?_)
                go_simp
                refine hK.out _ _ ?_
                clear hK K
                try simp only [Act.put, List.setIfInBounds_toArray, List.set_cons_zero, List.set_cons_succ]
                go_wp2_with fail
                clear hs1 hs1' kc0 kc1 kc2 kc0' kc1' kc2' gc1 gc1' hlk hlk1 he he2
                go_roundw
                case rel => exact ⟨k + 1, v2, by omega, by go_num, hMN, hSN, hBxN, hownN, hXN, hBN, hzN⟩
                case measure => simp [intOf]; omega
        · obtain rfl : k = G.length := by omega
          rw [List.take_length] at hS hown
          obtain ⟨C2, cc, hv, _, _⟩ := rowk_of_owns t3_len (A := (SP.shares wrap64 (trs R) G).map (·.1)) (by simpa using hown)
          obtain ⟨n5, hn5⟩ : ∃ n5, ((SP.shares wrap64 (trs R) G).map (·.1)).length = n5 := ⟨_, rfl⟩
          rw [hn5] at hv
          clear hn5
          subst hv
          have hs1 : wr.cell? ⟨w1.heap.size + 1, 1, none⟩ = some (.map (some w1.heap.size)) := hBx.cell rfl
          have x0 : wr.cell? ⟨w.heap.size, 0, none⟩ = some (.slice none 0 0) := hX.cell rfl
          have x1 : wr.cell? ⟨w.heap.size, 1, none⟩ = some (.map none) := hX.cell rfl
          have xf0 := hX.free 0
          have xf1 := hX.free 1
          go_wp2_with fail
          have hown9 := row_store (row_store hown (p := ⟨w.heap.size, 0, none⟩) (by show w.heap.size < w1.heap.size + 2; omega) (.slice C2 n5 cc)) (p := ⟨w.heap.size, 1, none⟩) (by show w.heap.size < w1.heap.size + 2; omega) (.map (some w1.heap.size))
          have hS9 := (hS.toX.far (p := ⟨w.heap.size, 0, none⟩) (by show w1.heap.size ≠ w.heap.size; omega) (.slice C2 n5 cc)).far (p := ⟨w.heap.size, 1, none⟩) (by show w1.heap.size ≠ w.heap.size; omega) (.map (some w1.heap.size))
          have hB9 := (hBw.setCell (p := ⟨w.heap.size, 0, none⟩) (Nat.le_refl _) (.slice C2 n5 cc)).setCell (p := ⟨w.heap.size, 1, none⟩) (Nat.le_refl _) (.map (some w1.heap.size))
          have y0 : (wr.setCell ⟨w.heap.size, 0, none⟩ (.slice C2 n5 cc)).cell? ⟨w.heap.size, 0, none⟩ = some (.slice C2 n5 cc) := (RT.box_first hX _).cell rfl
          have y1 : ((wr.setCell ⟨w.heap.size, 0, none⟩ (.slice C2 n5 cc)).setCell ⟨w.heap.size, 1, none⟩ (.map (some w1.heap.size))).cell? ⟨w.heap.size, 1, none⟩ = some (.map (some w1.heap.size)) := (RT.box_second (RT.box_first hX _) _).cell rfl
          refine bodyPost_ret (v := .agg #[.slice C2 n5 cc, .map (some w1.heap.size)]) (by simp [results, Try.results24, go_sem, y0, y1]) rfl ?_
          exact shares_end hown9 hS9 hB9
end Go.Proofs.Ythoigjkelinjhaa

/- The walk of booking.add: an entry pair more. -/
namespace Go.Proofs.Ythoigjkelinjhaa
open Go.RowKit CM
attribute [local go_sem] alloc_drewN setCell_drewN shape_drewN

def etC (e : LD.Et) : List Value := [.int .i64 e.day, .int .i64 e.known, .int .i64 e.owner, .int .i64 e.place, .int .i64 e.litres, .int .i64 e.why, .int .i64 e.ref]
theorem et_len (e : LD.Et) : (etC e).length = 7 := rfl
theorem et_one (A : List LD.Et) : ∀ u ∈ A.flatMap etC, u.oneCell' = true := fun u hu => by
  obtain ⟨e, _, h⟩ := List.mem_flatMap.1 hu
  simp only [etC, List.mem_cons, List.not_mem_nil, or_false] at h
  rcases h with rfl | rfl | rfl | rfl | rfl | rfl | rfl <;> rfl
/-- The entry pair of a triple, unless it is for no litres. -/
def addL (d kn wy : Int) (t : SP.T3) (n : Int) : List LD.Et := if n = 0 then [] else [⟨d, kn, t.2.1, t.2.2, n, wy, t.1⟩, ⟨d, kn, -1, t.2.2, wrap64 (-n), wy, t.1⟩]
theorem addL_len (d kn wy : Int) (t : SP.T3) (n : Int) : (addL d kn wy t n).length ≤ 2 := by unfold addL; split <;> simp
def AddIs (base : Nat) (v : Value) (out : List LD.Et) (w : World) (e : Ending) (w' : World) : Prop := ∃ v', e = .returned v' ∧ w'.ownsRow base 46 7 v' out.length (out.flatMap etC) ∧ w.grownBy w' v.ownBlock
theorem grown_below {w w' : World} (h : Below w.heap.size w w') (row : Option Nat) : w.grownBy w' row := ⟨h.os, h.tape, h.output, h.size, fun j hj _ => h.block j hj⟩
set_option maxRecDepth 100000 in
set_option maxHeartbeats 8000000 in
theorem sadd_any (d kn wy t1 t2 t3 n : Int) (v : Value) (out : List LD.Et) (w : World) {base : Nat} (hown : w.ownsRow base 46 7 v out.length (out.flatMap etC)) (hbase : base ≤ w.heap.size) (hl : out.length ≤ 1000000) :
    Calls Try.prog 25 #[.agg #[.int .i64 d, .int .i64 kn, .int .i64 wy], v, .agg #[.int .i64 t1, .int .i64 t2, .int .i64 t3], .int .i64 n] w (AddIs base v (out ++ addL d kn wy (t1, t2, t3) n) w) := by
  obtain ⟨g0, gi, gz0, gz1, gz2⟩ := info_parts Try.infoEnt
  obtain ⟨C, cc, hv, _, _⟩ := rowk_of_owns et_len hown
  obtain ⟨N, hN⟩ : ∃ N, out.length = N := ⟨_, rfl⟩
  rw [hN] at hv hl
  have HN := Lib.hid hN
  clear hN
  subst hv
  by_cases hn : n = 0
  · have hn1 : (n == 0) = true := by simpa using hn
    have HP : Hid (out ++ addL d kn wy (t1, t2, t3) n = out) := by show _ = _; unfold addL; rw [if_pos hn]; simp
    clear hn
    go_enter Try.func25, Try.ntmps25
    go_wp2_with fail
    go_ret
    refine ⟨_, rfl, ?_, ?_⟩
    · rw [HP.out]
      exact (hown.alloc _).alloc _
    · exact grown_below (((Below.refl _ _).alloc (Nat.le_refl _) _).alloc (by simp) _) _
  · have hn1 : (n == 0) = false := by simpa using hn
    have HP : Hid (addL d kn wy (t1, t2, t3) n = [⟨d, kn, t2, t3, n, wy, t1⟩, ⟨d, kn, -1, t3, wrap64 (-n), wy, t1⟩]) := by show _ = _; unfold addL; rw [if_neg hn]
    clear hn
    obtain ⟨z, hz⟩ : ∃ z, IntKind.i64.wrap (-n) = z := ⟨_, rfl⟩
    have Hz := Lib.hid hz
    go_enter Try.func25, Try.ntmps25
    go_upto_region 6 with fail
    have hb2 : Below w.heap.size w ((w.alloc (.cells #[.int .i64 d, .int .i64 kn, .int .i64 wy] 67)).alloc (.cells #[.int .i64 t1, .int .i64 t2, .int .i64 t3] 74)) := ((Below.refl _ _).alloc (Nat.le_refl _) _).alloc (by simp) _
    have hb3 : Below w.heap.size w (((w.alloc (.cells #[.int .i64 d, .int .i64 kn, .int .i64 wy] 67)).alloc (.cells #[.int .i64 t1, .int .i64 t2, .int .i64 t3] 74)).alloc (.cells #[.int .i64 d, .int .i64 kn, .int .i64 t2, .int .i64 t3, .int .i64 n, .int .i64 wy, .int .i64 t1] 46)) := hb2.alloc (by simp; omega) _
    have hb6 : Below w.heap.size w ((((w.alloc (.cells #[.int .i64 d, .int .i64 kn, .int .i64 wy] 67)).alloc (.cells #[.int .i64 t1, .int .i64 t2, .int .i64 t3] 74)).alloc (.cells #[.int .i64 d, .int .i64 kn, .int .i64 t2, .int .i64 t3, .int .i64 n, .int .i64 wy, .int .i64 t1] 46)).alloc (.cells #[.int .i64 d, .int .i64 kn, .int .i64 (-1), .int .i64 t3, .int .i64 z, .int .i64 wy, .int .i64 t1] 46)) := hb3.alloc (by simp; omega) _
    have hE : RT.Box ((((w.alloc (.cells #[.int .i64 d, .int .i64 kn, .int .i64 wy] 67)).alloc (.cells #[.int .i64 t1, .int .i64 t2, .int .i64 t3] 74)).alloc (.cells #[.int .i64 d, .int .i64 kn, .int .i64 t2, .int .i64 t3, .int .i64 n, .int .i64 wy, .int .i64 t1] 46)).alloc (.cells #[.int .i64 d, .int .i64 kn, .int .i64 (-1), .int .i64 t3, .int .i64 z, .int .i64 wy, .int .i64 t1] 46)) (w.heap.size + 1 + 1) #[.int .i64 d, .int .i64 kn, .int .i64 t2, .int .i64 t3, .int .i64 n, .int .i64 wy, .int .i64 t1] 46 := by
      have h := ((RT.Box.new ((w.alloc (.cells #[.int .i64 d, .int .i64 kn, .int .i64 wy] 67)).alloc (.cells #[.int .i64 t1, .int .i64 t2, .int .i64 t3] 74)) #[.int .i64 d, .int .i64 kn, .int .i64 t2, .int .i64 t3, .int .i64 n, .int .i64 wy, .int .i64 t1] 46).below (w' := ((((w.alloc (.cells #[.int .i64 d, .int .i64 kn, .int .i64 wy] 67)).alloc (.cells #[.int .i64 t1, .int .i64 t2, .int .i64 t3] 74)).alloc (.cells #[.int .i64 d, .int .i64 kn, .int .i64 t2, .int .i64 t3, .int .i64 n, .int .i64 wy, .int .i64 t1] 46)).alloc (.cells #[.int .i64 d, .int .i64 kn, .int .i64 (-1), .int .i64 t3, .int .i64 z, .int .i64 wy, .int .i64 t1] 46))) (below_new _ _) (by simp))
      simpa using h
    have hV : RT.Box ((((w.alloc (.cells #[.int .i64 d, .int .i64 kn, .int .i64 wy] 67)).alloc (.cells #[.int .i64 t1, .int .i64 t2, .int .i64 t3] 74)).alloc (.cells #[.int .i64 d, .int .i64 kn, .int .i64 t2, .int .i64 t3, .int .i64 n, .int .i64 wy, .int .i64 t1] 46)).alloc (.cells #[.int .i64 d, .int .i64 kn, .int .i64 (-1), .int .i64 t3, .int .i64 z, .int .i64 wy, .int .i64 t1] 46)) (w.heap.size + 1 + 1 + 1) #[.int .i64 d, .int .i64 kn, .int .i64 (-1), .int .i64 t3, .int .i64 z, .int .i64 wy, .int .i64 t1] 46 := by
      have h := RT.Box.new (((w.alloc (.cells #[.int .i64 d, .int .i64 kn, .int .i64 wy] 67)).alloc (.cells #[.int .i64 t1, .int .i64 t2, .int .i64 t3] 74)).alloc (.cells #[.int .i64 d, .int .i64 kn, .int .i64 t2, .int .i64 t3, .int .i64 n, .int .i64 wy, .int .i64 t1] 46)) #[.int .i64 d, .int .i64 kn, .int .i64 (-1), .int .i64 t3, .int .i64 z, .int .i64 wy, .int .i64 t1] 46
      simpa using h
    have hs : (((((w.alloc (.cells #[.int .i64 d, .int .i64 kn, .int .i64 wy] 67)).alloc (.cells #[.int .i64 t1, .int .i64 t2, .int .i64 t3] 74)).alloc (.cells #[.int .i64 d, .int .i64 kn, .int .i64 t2, .int .i64 t3, .int .i64 n, .int .i64 wy, .int .i64 t1] 46)).alloc (.cells #[.int .i64 d, .int .i64 kn, .int .i64 (-1), .int .i64 t3, .int .i64 z, .int .i64 wy, .int .i64 t1] 46))).heap.size = w.heap.size + 4 := by simp
    generalize ((((w.alloc (.cells #[.int .i64 d, .int .i64 kn, .int .i64 wy] 67)).alloc (.cells #[.int .i64 t1, .int .i64 t2, .int .i64 t3] 74)).alloc (.cells #[.int .i64 d, .int .i64 kn, .int .i64 t2, .int .i64 t3, .int .i64 n, .int .i64 wy, .int .i64 t1] 46)).alloc (.cells #[.int .i64 d, .int .i64 kn, .int .i64 (-1), .int .i64 t3, .int .i64 z, .int .i64 wy, .int .i64 t1] 46)) = W at hb6 hE hV hs ⊢
    have hs2 := Nat.le_of_eq hs.symm
    clear hs
    have hown6 := (row_below hown hb6).alloc (.cells (etC ⟨d, kn, t2, t3, n, wy, t1⟩ ++ etC ⟨d, kn, -1, t3, z, wy, t1⟩).toArray 46)
    rw [HN.out] at hown6
    have hlo := fun g e => own_lt2 hown (g := g) e
    have e0 := hE.cell (j := 0) rfl
    have e1 := hE.cell (j := 1) rfl
    have e2 := hE.cell (j := 2) rfl
    have e3 := hE.cell (j := 3) rfl
    have e4 := hE.cell (j := 4) rfl
    have e5 := hE.cell (j := 5) rfl
    have e6 := hE.cell (j := 6) rfl
    have v0 := hV.cell (j := 0) rfl
    have v1 := hV.cell (j := 1) rfl
    have v2 := hV.cell (j := 2) rfl
    have v3 := hV.cell (j := 3) rfl
    have v4 := hV.cell (j := 4) rfl
    have v5 := hV.cell (j := 5) rfl
    have v6 := hV.cell (j := 6) rfl
    clear hb2 hb3 hE hV hz
    have hbase2 : base ≤ W.heap.size := by omega
    go_wp2_with (first | (at_builtin; go_loud (refine wpList_append_any _ rfl _ _ 40 rfl base 46 g0 _ 7 56 Try.underlying40 gi gz0 gz1 gz2 rfl (by decide) _ N _ rfl hown6 (W.heap.size + 1) (some ⟨W.heap.size, 0, none⟩) 2 2 (etC ⟨d, kn, t2, t3, n, wy, t1⟩ ++ etC ⟨d, kn, -1, t3, z, wy, t1⟩) rfl ⟨rfl, fun _ => ⟨_, rfl, Nat.lt_succ_self _, cells_at rfl _ _⟩⟩ (fun u hu => et_one [⟨d, kn, t2, t3, n, wy, t1⟩, ⟨d, kn, -1, t3, z, wy, t1⟩] u (by simpa using hu)) (by unfold maxLen; omega) (by omega) (by simp <;> omega) ?_); intro v2 w5 hown5 hgr5 hat5) | fail)
    go_ret
    refine ⟨_, rfl, ?_, ?_⟩
    · rw [HP.out, List.flatMap_append, List.length_append, HN.out, ← IntWalk.i64_left, Hz.out]
      simpa using hown5
    · exact Plan.grown_go (Plan.grown_alloc (grown_below hb6 _) _) hgr5
end Go.Proofs.Ythoigjkelinjhaa

/- What Grants and Correct share: the shares beside a list that grows. -/
namespace Go.Proofs.Ythoigjkelinjhaa
open Go.RowKit CM

def lookX (S : List (SP.T3 × Int)) (t : SP.T3) : Int := (getX S t).getD 0
def grantsL (d kn : Int) (S : List (SP.T3 × Int)) : List LD.Et := (S.map (·.1)).flatMap fun t => addL d kn 0 t (lookX S t)
def afterL (d kn : Int) (Bf Af : List (SP.T3 × Int)) : List LD.Et := (Af.map (·.1)).flatMap fun t => addL d kn 1 t (wrap64 (lookX Af t - lookX Bf t))
def gone (Af : List (SP.T3 × Int)) (t : SP.T3) : Bool := (getX Af t).isNone
def backL (d kn : Int) (Bf Af : List (SP.T3 × Int)) : List LD.Et := ((Bf.map (·.1)).filter (gone Af)).flatMap fun t => addL d kn 1 t (wrap64 (-lookX Bf t))
def correctL (d kn : Int) (Bf Af : List (SP.T3 × Int)) : List LD.Et := afterL d kn Bf Af ++ backL d kn Bf Af
def EntsIs (E : List LD.Et) (w : World) (e : Ending) (w' : World) : Prop := ∃ C cc, e = .returned (.slice C E.length cc) ∧ RowAt etC 7 w' w'.heap.size C E ∧ Below w.heap.size w w'
def CorIs (G : List (Int × Int)) (n : Nat) (E : List LD.Et) (w : World) (e : Ending) (w' : World) : Prop := ∃ D cd C cc, e = .returned (.tuple #[.slice D n cd, .slice C E.length cc]) ∧ PairsAt w' w'.heap.size D G ∧ RowAt etC 7 w' w'.heap.size C E ∧ Below w.heap.size w w'
theorem flat_len {f : SP.T3 → List LD.Et} (hf : ∀ t, (f t).length ≤ 2) : ∀ T : List SP.T3, (T.flatMap f).length ≤ 2 * T.length
  | [] => by simp
  | t :: T => by
    have := flat_len hf T
    have := hf t
    rw [List.flatMap_cons, List.length_append, List.length_cons]; omega
theorem flat_snoc {f : SP.T3 → List LD.Et} {T : List SP.T3} {k : Nat} {t : SP.T3} (h : T[k]? = some t) : (T.take (k + 1)).flatMap f = (T.take k).flatMap f ++ f t := by
  rw [List.take_add_one, h, List.flatMap_append]; simp
theorem filt_snoc {f : SP.T3 → List LD.Et} {p : SP.T3 → Bool} {T : List SP.T3} {k : Nat} {t : SP.T3} (h : T[k]? = some t) : ((T.take (k + 1)).filter p).flatMap f = ((T.take k).filter p).flatMap f ++ (if p t = true then f t else []) := by
  rw [List.take_add_one, h, List.filter_append, List.flatMap_append]
  by_cases e : p t = true <;> simp [e]
theorem t3_at {w : World} {B : Nat} {C : Option Addr} {A : List SP.T3} (h : RowAt t3C 3 w B C A) {k : Nat} {t : SP.T3} (hk : A[k]? = some t) : ∃ b off, C = some ⟨b, off, none⟩ ∧ b < B ∧ w.cell? ⟨b, off + k * 3, none⟩ = some (.int .i64 t.1) ∧ w.cell? ⟨b, off + k * 3 + 1, none⟩ = some (.int .i64 t.2.1) ∧ w.cell? ⟨b, off + k * 3 + 2, none⟩ = some (.int .i64 t.2.2) := by
  have hlt := (List.getElem?_eq_some_iff.1 hk).1
  obtain ⟨b, off, e, hb, hc⟩ := h (by omega)
  exact ⟨b, off, e, hb, hc k t hk 0 _ rfl, hc k t hk 1 _ rfl, hc k t hk 2 _ rfl⟩
/-- The booking, the shares of a list: boxes, the map, the order. -/
structure ShW (base : Nat) (d kn wy : Int) (kb s1 : Nat) (C : Option Addr) (n c b : Nat) (S : List (SP.T3 × Int)) (wr : World) : Prop where
  bk : RT.Box wr kb #[.int .i64 d, .int .i64 kn, .int .i64 wy] 67
  bs : RT.Box wr s1 #[.slice C n c, .map (some b)] 71
  mp : MapX wr b t3V iV S
  rw : RowAt t3C 3 wr base C (S.map (·.1))
  lk : kb < base
  ls : s1 < base
  lb : b < base
section
variable {base : Nat} {d kn wy : Int} {kb s1 : Nat} {C : Option Addr} {n c b : Nat} {S : List (SP.T3 × Int)} {wr w' : World}
theorem ShW.below (h : ShW base d kn wy kb s1 C n c b S wr) (hb : Below base wr w') : ShW base d kn wy kb s1 C n c b S w' :=
  ⟨h.bk.below hb h.lk, h.bs.below hb h.ls, h.mp.below hb h.lb, h.rw.below hb, h.lk, h.ls, h.lb⟩
theorem ShW.look (h : ShW base d kn wy kb s1 C n c b S wr) (t1 t2 t3 : Int) (wx : World) (hx : wx.heap[b]? = wr.heap[b]?) : (Instr.lookup 69 (.map (some b)) (.agg #[.int .i64 t1, .int .i64 t2, .int .i64 t3]) false).run Try.prog wx = .ok (.int .i64 (lookX S (t1, t2, t3))) wx := by
  have q := (h.mp.keep hx).lookup Try.keyT3 Try.underlying69 (Try.zeroI wx) (t1, t2, t3)
  rw [show ((getX S (t1, t2, t3)).map iV).getD (iV 0) = iV (lookX S (t1, t2, t3)) by unfold lookX; cases getX S (t1, t2, t3) <;> rfl] at q
  exact q
theorem ShW.look_ok (h : ShW base d kn wy kb s1 C n c b S wr) (t1 t2 t3 : Int) (wx : World) (hx : wx.heap[b]? = wr.heap[b]?) : (Instr.lookup 69 (.map (some b)) (.agg #[.int .i64 t1, .int .i64 t2, .int .i64 t3]) true).run Try.prog wx = .ok (.tuple #[.int .i64 (lookX S (t1, t2, t3)), .bool (!gone S (t1, t2, t3))]) wx := by
  have q := (h.mp.keep hx).lookup_ok Try.keyT3 Try.underlying69 (Try.zeroI wx) (t1, t2, t3)
  rw [show ((getX S (t1, t2, t3)).map iV).getD (iV 0) = iV (lookX S (t1, t2, t3)) by unfold lookX; cases getX S (t1, t2, t3) <;> rfl] at q
  rw [show (getX S (t1, t2, t3)).isSome = !gone S (t1, t2, t3) by unfold gone; cases getX S (t1, t2, t3) <;> rfl] at q
  exact q
end
/-- What Day hands back, read as a list. -/
theorem day_pairs4 {pl : Pl} {R : List Rt} {S : List Int} {w : World} {e : Ending} {w' : World} (h : DayIs pl R S w e w') : ∃ D cd, e = .returned (.tuple #[.slice D R.length cd, .slice (some ⟨w.heap.size + 1 + 1, 0, none⟩) pl.length pl.length]) ∧ PairsAt w' w'.heap.size D (dayLs pl R S) ∧ Below w.heap.size w w' := by
  obtain ⟨v, he, ho, hA, hb, hz⟩ := h
  have e1 := dayLs_len (pl := pl) (R := R) (S := S)
  rw [← e1] at ho
  obtain ⟨D, cd, rfl, hD⟩ := pairs_of_owns ho
  rw [e1] at he
  exact ⟨D, cd, he, hD, hb⟩
end Go.Proofs.Ythoigjkelinjhaa

/- The walk of settle.Grants. (Printed by gen_sg.py.) -/
namespace Go.Proofs.Ythoigjkelinjhaa
open Go.RowKit CM
attribute [local go_sem] alloc_drewN setCell_drewN shape_drewN
set_option maxRecDepth 100000 in
set_option maxHeartbeats 8000000 in
theorem grants_any (day kn : Int) (R : List Rt) (G : List (Int × Int)) (C : Option Addr) (cr : Nat) (D : Option Addr) (cg : Nat) (w : World) {B : Nat} (hR : RightsAt w B C R) (hG : PairsAt w B D G) (hB : B ≤ w.heap.size) (hr : R.length ≤ 100000) (hg : G.length ≤ 100000) (hG64 : ∀ x ∈ G, In64 x.2) :
    Calls Try.prog 13 #[.int .i64 day, .int .i64 kn, .slice C R.length cr, .slice D G.length cg] w (EntsIs (grantsL day kn (shL R G)) w) := by
  obtain ⟨S, hS⟩ : ∃ S, shL R G = S := ⟨_, rfl⟩
  have hSl : S.length ≤ 100000 := by have := shares_len (trs R) G; rw [show SP.shares wrap64 (trs R) G = S from hS] at this; omega
  have K0 : Hid (∀ wx, Below w.heap.size w wx → Calls Try.prog 24 #[.slice C R.length cr, .slice D G.length cg] wx (SharesIs S wx)) := fun wx h => by rw [← hS]; exact collect_any R G C cr D cg wx (hR.below (h.mono hB)) (hG.below (h.mono hB)) (by have := h.size; omega) (by omega) (by omega) hG64
  rw [hS]
  clear hR hG hS hG64
  obtain ⟨N, hN⟩ : ∃ N, Hid (S.length = N) := ⟨_, rfl⟩
  have hNl : N ≤ 100000 := by rw [← hN.out]; exact hSl
  go_enter Try.func13, Try.ntmps13
  go_wp2_with (first | (go_at_call 24; ((with_reducible refine (K0.out _ (below_new w _)).mono ?_); rintro e1 w1 ⟨C1, c1, b1, rfl, hrow1, hM1, hb1⟩; rw [hN.out])) | fail)
  have hz1 : w.heap.size < w1.heap.size := by have := hb1.size; simp at this; omega
  have hbk : RT.Box w1 w.heap.size #[.int .i64 day, .int .i64 kn, .int .i64 0] 67 := (RT.Box.new w _ _).below hb1 (by simp)
  have hB1 : Below w.heap.size w w1 := (below_new w _).trans (hb1.mono (by simp))
  obtain ⟨base, hbase⟩ : ∃ base, base = w1.heap.size + 1 := ⟨_, rfl⟩
  have hSh : ShW base day kn 0 w.heap.size w1.heap.size C1 N c1 b1 S (w1.alloc (.cells #[.slice C1 N c1, .map (some b1)] 71)) := by
    have h := below_new w1 (.cells #[.slice C1 N c1, .map (some b1)] 71)
    exact ⟨hbk.below h hz1, RT.Box.new w1 _ _, hM1.below h hM1.lt, (hrow1.below h).more (by omega), by omega, by omega, by have := hM1.lt; omega⟩
  have hB2 := hB1.trans ((below_new w1 (.cells #[.slice C1 N c1, .map (some b1)] 71)).mono (by omega))
  have hz2 : base ≤ (w1.alloc (.cells #[.slice C1 N c1, .map (some b1)] 71)).heap.size := by simp; omega
  clear hb1 hbk hB1 hrow1 hM1 hbase K0
  obtain ⟨f, hf⟩ : ∃ f : SP.T3 → List LD.Et, Hid (f = fun t => addL day kn 0 t (lookX S t)) := ⟨_, rfl⟩
  have hfl : Hid (∀ T : List SP.T3, (T.flatMap f).length ≤ 2 * T.length) := fun T => flat_len (fun t => by rw [hf.out]; exact addL_len _ _ _ _ _) T
  have HSh := Lib.hid hSh
  have HB2 := Lib.hid hB2
  generalize w1.alloc (.cells #[.slice C1 N c1, .map (some b1)] 71) = w2 at HSh HB2 hz2 ⊢
  clear hSh hB2
  go_loopw [11, 23] (fun out iv wr => ∃ k : Nat, k ≤ N ∧ iv = .int .i64 k ∧ wr.ownsRow base 46 7 out (((S.map (·.1)).take k).flatMap f).length ((((S.map (·.1)).take k).flatMap f).flatMap etC) ∧ ShW base day kn 0 w.heap.size w1.heap.size C1 N c1 b1 S wr ∧ Below w.heap.size w wr ∧ base ≤ wr.heap.size) (fun _ iv _ => N - (intOf iv).toNat)
  case atStart => exact ⟨0, Nat.zero_le _, rfl, World.ownsRow_nil _ _ _ _, HSh.out, HB2.out, hz2⟩
  case round =>
    obtain ⟨k, hk, rfl, hown, hSh, hBw, hz⟩ := hrel
    obtain ⟨out, rfl⟩ : ∃ o, o = u11 := ⟨_, rfl⟩
    by_cases hlt : k < N
    · obtain ⟨⟨t1, t2, t3⟩, hx⟩ : ∃ t, (S.map (·.1))[k]? = some t := ⟨_, List.getElem?_eq_getElem (by rw [List.length_map, hN.out]; exact hlt)⟩
      obtain ⟨b, off, ec, hb, c0, c1, c2⟩ := t3_at hSh.rw hx
      subst ec
      dsimp only at c0 c1 c2
      have hbw : b < wr.heap.size := by omega
      have hN1 : Hid (((S.map (·.1)).take (k + 1)).flatMap f = ((S.map (·.1)).take k).flatMap f ++ addL day kn 0 (t1, t2, t3) (lookX S (t1, t2, t3))) := by
        show _ = _
        rw [flat_snoc hx]
        simp only [hf.out]
      obtain ⟨E0, hE0⟩ : ∃ E0, ((S.map (·.1)).take k).flatMap f = E0 := ⟨_, rfl⟩
      have hE0l : E0.length ≤ 200000 := by
        rw [← hE0]
        have h1 := hfl.out ((S.map (·.1)).take k)
        rw [List.length_take] at h1
        omega
      rw [hE0] at hown hN1
      clear hx hE0
      go_upto_region 7 with fail
      have hlo : ∀ g, out.ownBlock = some g → base ≤ g ∧ g < wr.heap.size := fun g e => own_lt2 hown e
      have hwa : Below wr.heap.size wr (wr.alloc (.cells #[.int .i64 t1, .int .i64 t2, .int .i64 t3] 74)) := below_new wr _
      have hs10 := hSh.ls
      have hsb0 := hSh.lb
      obtain ⟨nA, hnA⟩ : ∃ n, lookX S (t1, t2, t3) = n := ⟨_, rfl⟩
      have hkl := hSh.lk
      have hk0 : (wr.alloc (.cells #[.int .i64 t1, .int .i64 t2, .int .i64 t3] 74)).cell? ⟨w.heap.size, 0, none⟩ = some (.int .i64 day) := (hSh.bk.below hwa (by omega)).cell rfl
      have hk1 : (wr.alloc (.cells #[.int .i64 t1, .int .i64 t2, .int .i64 t3] 74)).cell? ⟨w.heap.size, 1, none⟩ = some (.int .i64 kn) := (hSh.bk.below hwa (by omega)).cell rfl
      have hk2 : (wr.alloc (.cells #[.int .i64 t1, .int .i64 t2, .int .i64 t3] 74)).cell? ⟨w.heap.size, 2, none⟩ = some (.int .i64 0) := (hSh.bk.below hwa (by omega)).cell rfl
      have ht0 : (wr.alloc (.cells #[.int .i64 t1, .int .i64 t2, .int .i64 t3] 74)).cell? ⟨wr.heap.size, 0, none⟩ = some (.int .i64 t1) := (RT.Box.new wr _ _).cell rfl
      have ht1 : (wr.alloc (.cells #[.int .i64 t1, .int .i64 t2, .int .i64 t3] 74)).cell? ⟨wr.heap.size, 1, none⟩ = some (.int .i64 t2) := (RT.Box.new wr _ _).cell rfl
      have ht2 : (wr.alloc (.cells #[.int .i64 t1, .int .i64 t2, .int .i64 t3] 74)).cell? ⟨wr.heap.size, 2, none⟩ = some (.int .i64 t3) := (RT.Box.new wr _ _).cell rfl
      have hm0 : (wr.alloc (.cells #[.int .i64 t1, .int .i64 t2, .int .i64 t3] 74)).cell? ⟨w1.heap.size, 1, none⟩ = some (.map (some b1)) := (hSh.bs.below hwa (by omega)).cell rfl
      have hl0 := hSh.look t1 t2 t3 (wr.alloc (.cells #[.int .i64 t1, .int .i64 t2, .int .i64 t3] 74)).drew (hwa.block b1 (by omega))
      rw [hnA] at hl0
      have hownW : (wr.alloc (.cells #[.int .i64 t1, .int .i64 t2, .int .i64 t3] 74)).drew.ownsRow base 46 7 out E0.length (E0.flatMap etC) := (row_below hown hwa).drew
      have KA := sadd_any day kn 0 t1 t2 t3 nA out E0 (wr.alloc (.cells #[.int .i64 t1, .int .i64 t2, .int .i64 t3] 74)).drew hownW (by show base ≤ (wr.alloc (.cells #[.int .i64 t1, .int .i64 t2, .int .i64 t3] 74)).heap.size; simp; omega) (by omega)
      have HKA := Lib.hid KA
      clear KA hownW
      refine Plan.wp_region_plan (fun wx => wx.cell? ⟨w.heap.size, 0, none⟩ = some (.int .i64 day) ∧ wx.cell? ⟨w.heap.size, 1, none⟩ = some (.int .i64 kn) ∧ wx.cell? ⟨w.heap.size, 2, none⟩ = some (.int .i64 0) ∧ wx.cell? ⟨wr.heap.size, 0, none⟩ = some (.int .i64 t1) ∧ wx.cell? ⟨wr.heap.size, 1, none⟩ = some (.int .i64 t2) ∧ wx.cell? ⟨wr.heap.size, 2, none⟩ = some (.int .i64 t3) ∧ wx.cell? ⟨w1.heap.size, 1, none⟩ = some (.map (some b1)) ∧ (Instr.lookup 69 (.map (some b1)) (.agg #[.int .i64 t1, .int .i64 t2, .int .i64 t3]) false).run Try.prog wx = .ok (.int .i64 nA) wx) 8 [(0, true), (1, true), (2, true), (3, true), (4, true), (5, true), (6, true), (7, false), (8, false)] (by kernel_rfl) (by kernel_rfl) ⟨hk0, hk1, hk2, ht0, ht1, ht2, hm0, hl0⟩ ?_
      (repeat (refine Plan.plan_read (v := ?_) rfl rfl ?_ ?_; rotate_left; (focus ((intro wS hSw; (try dsimp only at hSw); go_simp); try with_reducible rfl)); simp only [Act.put, List.setIfInBounds_toArray, List.set_cons_zero, List.set_cons_succ]))
      refine Plan.plan_write rfl (fun K hK => ?_)
      go_simp
      go_at_call 25
      (with_reducible refine HKA.out.mono ?_)
      rintro e5 w5 ⟨out5, rfl, hown5, hgr5⟩
      try go_simp
      have cf := Plan.grown_cells hgr5
      have hk0' : w5.cell? ⟨w.heap.size, 0, none⟩ = some (.int .i64 day) := (cf _ _ (by show _ < (wr.alloc (.cells #[.int .i64 t1, .int .i64 t2, .int .i64 t3] 74)).heap.size; simp <;> omega) (fun e => by have := hlo _ e.symm; omega)).trans hk0
      have hk1' : w5.cell? ⟨w.heap.size, 1, none⟩ = some (.int .i64 kn) := (cf _ _ (by show _ < (wr.alloc (.cells #[.int .i64 t1, .int .i64 t2, .int .i64 t3] 74)).heap.size; simp <;> omega) (fun e => by have := hlo _ e.symm; omega)).trans hk1
      have hk2' : w5.cell? ⟨w.heap.size, 2, none⟩ = some (.int .i64 0) := (cf _ _ (by show _ < (wr.alloc (.cells #[.int .i64 t1, .int .i64 t2, .int .i64 t3] 74)).heap.size; simp <;> omega) (fun e => by have := hlo _ e.symm; omega)).trans hk2
      have ht0' : w5.cell? ⟨wr.heap.size, 0, none⟩ = some (.int .i64 t1) := (cf _ _ (by show _ < (wr.alloc (.cells #[.int .i64 t1, .int .i64 t2, .int .i64 t3] 74)).heap.size; simp <;> omega) (fun e => by have := hlo _ e.symm; omega)).trans ht0
      have ht1' : w5.cell? ⟨wr.heap.size, 1, none⟩ = some (.int .i64 t2) := (cf _ _ (by show _ < (wr.alloc (.cells #[.int .i64 t1, .int .i64 t2, .int .i64 t3] 74)).heap.size; simp <;> omega) (fun e => by have := hlo _ e.symm; omega)).trans ht1
      have ht2' : w5.cell? ⟨wr.heap.size, 2, none⟩ = some (.int .i64 t3) := (cf _ _ (by show _ < (wr.alloc (.cells #[.int .i64 t1, .int .i64 t2, .int .i64 t3] 74)).heap.size; simp <;> omega) (fun e => by have := hlo _ e.symm; omega)).trans ht2
      have hm0' : w5.cell? ⟨w1.heap.size, 1, none⟩ = some (.map (some b1)) := (cf _ _ (by show _ < (wr.alloc (.cells #[.int .i64 t1, .int .i64 t2, .int .i64 t3] 74)).heap.size; simp <;> omega) (fun e => by have := hlo _ e.symm; omega)).trans hm0
      have hl0' := hSh.look t1 t2 t3 w5 ((hgr5.block b1 (by show _ < (wr.alloc (.cells #[.int .i64 t1, .int .i64 t2, .int .i64 t3] 74)).heap.size; simp <;> omega) (fun e => by have := hlo _ e.symm; omega)).trans (hwa.block b1 (by omega)))
      rw [hnA] at hl0'
      refine hK.out _ _ ⟨hk0', hk1', hk2', ht0', ht1', ht2', hm0', hl0'⟩ ?_
      clear hK K
      try simp only [Act.put, List.setIfInBounds_toArray, List.set_cons_zero, List.set_cons_succ]
      (repeat (refine Plan.plan_read (v := ?_) rfl rfl ?_ ?_; rotate_left; (focus ((intro wS hSw; (try dsimp only at hSw); go_simp); try with_reducible rfl)); simp only [Act.put, List.setIfInBounds_toArray, List.set_cons_zero, List.set_cons_succ]))
      refine Plan.plan_last rfl (fun K hK => ?_)
      go_simp
      refine hK.out _ _ ?_
      clear hK K
      try simp only [Act.put, List.setIfInBounds_toArray, List.set_cons_zero, List.set_cons_succ]
      have hb5 : Below base wr w5 := ((hwa.mono (by omega)).drew).grown hgr5 (by show base ≤ (wr.alloc (.cells #[.int .i64 t1, .int .i64 t2, .int .i64 t3] 74)).heap.size; simp; omega) (fun g e => (hlo g e).1)
      clear hk0 hk1 hk2 ht0 ht1 ht2 hm0 hk0' hk1' hk2' ht0' ht1' ht2' hm0' hl0 hl0' cf hgr5 hwa hlo HKA
      go_wp2_with fail
      have hownN : w5.ownsRow base 46 7 out5 (((S.map (·.1)).take (k + 1)).flatMap f).length ((((S.map (·.1)).take (k + 1)).flatMap f).flatMap etC) := by rw [hN1.out, hnA]; exact hown5
      have hShN := hSh.below hb5
      have hBN := hBw.trans (hb5.mono (by omega))
      have hzN : base ≤ w5.heap.size := by have := hb5.size; omega
      clear hSh hBw hb5 hown5 hnA hN1 c0 c1 c2 hown
      go_roundw
      case rel => exact ⟨k + 1, by omega, by go_num, hownN, hShN, hBN, hzN⟩
      case measure => simp [intOf]; omega
    · obtain rfl : N = k := by omega
      have hE : ((S.map (·.1)).take N).flatMap f = grantsL day kn S := by
        rw [← hN.out, show S.length = (S.map (·.1)).length by simp, List.take_length, hf.out]
        rfl
      rw [hE] at hown
      obtain ⟨C2, cc, hv, hrow, _⟩ := rowk_of_owns et_len hown
      go_wp2_with fail
      go_ret
      exact ⟨C2, cc, by rw [hv]; rfl, hrow, hBw⟩
end Go.Proofs.Ythoigjkelinjhaa

/- The walk of settle.Correct. (Printed by gen_sg.py.) -/
namespace Go.Proofs.Ythoigjkelinjhaa
open Go.RowKit CM
attribute [local go_sem] alloc_drewN setCell_drewN shape_drewN
set_option maxRecDepth 100000 in
set_option maxHeartbeats 8000000 in
theorem correct_any (X : Bas) (pl : Pl) (Rw Rn : List Rt) (O : List (Int × Int)) (S : List Int) (day kn : Int) (C1 : Option Addr) (cr1 : Nat) (C2 : Option Addr) (cr2 : Nat) (D : Option Addr) (cg : Nat) (E : Option Addr) (cs : Nat) (w : World) {B : Nat} (hP : PlacesAt w B X.P pl) (hR1 : RightsAt w B C1 Rw) (hR2 : RightsAt w B C2 Rn) (hG : PairsAt w B D O) (hE : IntsAt w B E S) (hB : B ≤ w.heap.size)
    (hl : pl.length ≤ 100000) (hr1 : Rw.length ≤ 100000) (hr2 : Rn.length ≤ 100000) (hg : O.length ≤ 100000) (hs : S.length ≤ 9223372036854775807) (hS : ∀ x ∈ S, In64 x) (hO64 : ∀ x ∈ O, In64 x.2) (hD64 : ∀ x ∈ dayLs pl Rn S, In64 x.2) :
    Calls Try.prog 12 #[.agg #[.string X.nm, .slice X.a1 X.l1 X.c1, .int .i64 X.cl, .slice X.P pl.length X.cP, .slice X.a4 X.l4 X.c4, .slice X.a5 X.l5 X.c5, .slice X.a6 X.l6 X.c6, .slice X.a7 X.l7 X.c7, .slice X.a8 X.l8 X.c8, .slice X.a9 X.l9 X.c9, .int .i64 X.er], .slice C1 Rw.length cr1, .slice C2 Rn.length cr2, .slice D O.length cg, .slice E S.length cs, .int .i64 day, .int .i64 kn] w (CorIs (dayLs pl Rn S) Rn.length (correctL day kn (shL Rw O) (shL Rn (dayLs pl Rn S))) w) := by
  obtain ⟨Bf, hBf⟩ : ∃ Q, shL Rw O = Q := ⟨_, rfl⟩
  obtain ⟨A, hA⟩ : ∃ Q, shL Rn (dayLs pl Rn S) = Q := ⟨_, rfl⟩
  have hBl : Bf.length ≤ 100000 := by have := shares_len (trs Rw) O; rw [show SP.shares wrap64 (trs Rw) O = Bf from hBf] at this; omega
  have hAl : A.length ≤ 100000 := by have := shares_len (trs Rn) (dayLs pl Rn S); rw [show SP.shares wrap64 (trs Rn) (dayLs pl Rn S) = A from hA, dayLs_len] at this; omega
  have KD : Hid (∀ wx, Below w.heap.size w wx → Calls Try.prog 11 #[.agg #[.string X.nm, .slice X.a1 X.l1 X.c1, .int .i64 X.cl, .slice X.P pl.length X.cP, .slice X.a4 X.l4 X.c4, .slice X.a5 X.l5 X.c5, .slice X.a6 X.l6 X.c6, .slice X.a7 X.l7 X.c7, .slice X.a8 X.l8 X.c8, .slice X.a9 X.l9 X.c9, .int .i64 X.er], .slice C2 Rn.length cr2, .slice E S.length cs] wx (DayIs pl Rn S wx)) := fun wx h => day_any X pl Rn S C2 cr2 E cs wx (hP.below (h.mono hB)) (hR2.below (h.mono hB)) (hE.below (h.mono hB)) (by have := h.size; omega) (by omega) (by omega) hs hS
  have K1 : Hid (∀ wx, Below w.heap.size w wx → Calls Try.prog 24 #[.slice C1 Rw.length cr1, .slice D O.length cg] wx (SharesIs Bf wx)) := fun wx h => by rw [← hBf]; exact collect_any Rw O C1 cr1 D cg wx (hR1.below (h.mono hB)) (hG.below (h.mono hB)) (by have := h.size; omega) (by omega) (by omega) hO64
  have K2 : Hid (∀ (D4 : Option Addr) (cd : Nat) wx, Below w.heap.size w wx → PairsAt wx wx.heap.size D4 (dayLs pl Rn S) → Calls Try.prog 24 #[.slice C2 Rn.length cr2, .slice D4 Rn.length cd] wx (SharesIs A wx)) := fun D4 cd wx h hD => by
    have := collect_any Rn (dayLs pl Rn S) C2 cr2 D4 cd wx ((hR2.below (h.mono hB)).more (by have := h.size; omega)) hD (Nat.le_refl _) (by omega) (by rw [dayLs_len]; omega) hD64
    rw [dayLs_len] at this
    rw [← hA]; exact this
  rw [hBf, hA]
  clear hR1 hR2 hG hE hBf hA hO64 hD64 hS hs hP
  obtain ⟨GN, hGN⟩ : ∃ Q, dayLs pl Rn S = Q := ⟨_, rfl⟩
  rw [hGN] at K2 ⊢
  obtain ⟨NB, hNB⟩ : ∃ N, Hid (Bf.length = N) := ⟨_, rfl⟩
  obtain ⟨NA, hNA⟩ : ∃ N, Hid (A.length = N) := ⟨_, rfl⟩
  have hNBl : NB ≤ 100000 := by rw [← hNB.out]; exact hBl
  have hNAl : NA ≤ 100000 := by rw [← hNA.out]; exact hAl
  have HGN := Lib.hid hGN
  clear hBl hAl hGN
  obtain ⟨nm, a1, l1, c1, cl, P, cP, a4, l4, c4, a5, l5, c5, a6, l6, c6, a7, l7, c7, a8, l8, c8, a9, l9, c9, er⟩ := X
  dsimp only at KD ⊢
  go_enter Try.func12, Try.ntmps12
  go_upto_region 2 with (first | (go_at_call 11; ((with_reducible refine (KD.out _ (below_new w _)).mono ?_); intro e4 w4 hd; obtain ⟨D4, cd, rfl, hD4, hb4⟩ := day_pairs4 hd; rw [HGN.out] at hD4; clear hd)) | fail)
  have hb4w : Below w.heap.size w w4 := (below_new w _).trans (hb4.mono (by simp))
  clear hb4 KD
  generalize hWK : w4.alloc (.cells #[.int .i64 day, .int .i64 kn, .int .i64 1] 67) = wk
  have hbk0 : RT.Box wk w4.heap.size #[.int .i64 day, .int .i64 kn, .int .i64 1] 67 := by rw [← hWK]; exact RT.Box.new w4 _ _
  have hb4k : Below w4.heap.size w4 wk := by rw [← hWK]; exact below_new w4 _
  have hzk : w4.heap.size < wk.heap.size := by rw [← hWK]; simp
  go_upto_region 3 with fail
  clear hWK
  have hbwk : Below w.heap.size w wk := hb4w.trans (hb4k.mono hb4w.size)
  have hDk : PairsAt wk wk.heap.size D4 GN := (hD4.below hb4k).more hb4k.size
  clear hb4w hb4k hD4
  go_upto_region 4 with (first | (go_at_call 24; first | ((with_reducible refine (K1.out _ hbwk).mono ?_); rintro e5 w5 ⟨CB, cB, bB, rfl, hrowB, hMB, hb5⟩; rw [hNB.out]; have hbw5 := hbwk.trans (hb5.mono hbwk.size); have hD5 := (hDk.below hb5).more hb5.size) | ((with_reducible refine (K2.out D4 cd _ hbw5 hD5).mono ?_); rintro e6 w6 ⟨CA, cA, bA, rfl, hrowA, hMA, hb6⟩; rw [hNA.out])) | fail)
  have hz5 := hb5.size
  have hz6 := hb6.size
  have hbw6 := hbw5.trans (hb6.mono hbw5.size)
  obtain ⟨base, hbase⟩ : ∃ base, base = w6.heap.size + 2 := ⟨_, rfl⟩
  have h1 : Below w6.heap.size w6 ((w6.alloc (.cells #[.slice CB NB cB, .map (some bB)] 71)).alloc (.cells #[.slice CA NA cA, .map (some bA)] 71)) := ((Below.refl _ _).alloc (Nat.le_refl _) _).alloc (by simp) _
  have hAsh : Hid (ShW base day kn 1 w4.heap.size (w6.heap.size + 1) CA NA cA bA A ((w6.alloc (.cells #[.slice CB NB cB, .map (some bB)] 71)).alloc (.cells #[.slice CA NA cA, .map (some bA)] 71))) := by
    refine ⟨((hbk0.below hb5 hzk).below hb6 (by omega)).below h1 (by omega), ?_, hMA.below h1 hMA.lt, (hrowA.below h1).more (by omega), by omega, by omega, by have := hMA.lt; omega⟩
    have q := RT.Box.new (w6.alloc (.cells #[.slice CB NB cB, .map (some bB)] 71)) #[.slice CA NA cA, .map (some bA)] 71
    simpa using q
  have hBsh : Hid (ShW base day kn 1 w4.heap.size w6.heap.size CB NB cB bB Bf ((w6.alloc (.cells #[.slice CB NB cB, .map (some bB)] 71)).alloc (.cells #[.slice CA NA cA, .map (some bA)] 71))) := by
    refine ⟨((hbk0.below hb5 hzk).below hb6 (by omega)).below h1 (by omega), ?_, (hMB.below hb6 hMB.lt).below h1 (by have := hMB.lt; omega), ((hrowB.below hb6).below (h1.mono hz6)).more (by omega), by omega, by omega, by have := hMB.lt; omega⟩
    exact (RT.Box.new w6 _ _).below (B := w6.heap.size + 1) ((Below.refl _ _).alloc (by simp) _) (by omega)
  have hDz : Hid (PairsAt ((w6.alloc (.cells #[.slice CB NB cB, .map (some bB)] 71)).alloc (.cells #[.slice CA NA cA, .map (some bA)] 71)) base D4 GN) := (((hD5.below hb6).more hb6.size).below h1).more (by omega)
  have hBz : Hid (Below w.heap.size w ((w6.alloc (.cells #[.slice CB NB cB, .map (some bB)] 71)).alloc (.cells #[.slice CA NA cA, .map (some bA)] 71))) := hbw6.trans (h1.mono hbw6.size)
  have hzz : base ≤ (((w6.alloc (.cells #[.slice CB NB cB, .map (some bB)] 71)).alloc (.cells #[.slice CA NA cA, .map (some bA)] 71))).heap.size := by simp; omega
  have hwb : w.heap.size ≤ base := by have := hbw6.size; omega
  clear hb5 hb6 h1 hbk0 hrowA hrowB hMA hMB hD5 hDk hbw5 hbw6 hbwk hbase K1 K2
  generalize ((w6.alloc (.cells #[.slice CB NB cB, .map (some bB)] 71)).alloc (.cells #[.slice CA NA cA, .map (some bA)] 71)) = wz at hAsh hBsh hDz hBz hzz ⊢
  obtain ⟨f, hf⟩ : ∃ f : SP.T3 → List LD.Et, Hid (f = fun t => addL day kn 1 t (wrap64 (lookX A t - lookX Bf t))) := ⟨_, rfl⟩
  have hfl : Hid (∀ T : List SP.T3, (T.flatMap f).length ≤ 2 * T.length) := fun T => flat_len (fun t => by rw [hf.out]; exact addL_len _ _ _ _ _) T
  have zs : wz.cell? ⟨w6.heap.size + 1, 0, none⟩ = some (.slice CA NA cA) := hAsh.out.bs.cell rfl
  go_wp2_with fail
  clear zs
  go_loopw [21, 47] (fun out iv wr => ∃ k : Nat, k ≤ NA ∧ iv = .int .i64 k ∧ wr.ownsRow base 46 7 out (((A.map (·.1)).take k).flatMap f).length ((((A.map (·.1)).take k).flatMap f).flatMap etC) ∧ ShW base day kn 1 w4.heap.size (w6.heap.size + 1) CA NA cA bA A wr ∧ ShW base day kn 1 w4.heap.size w6.heap.size CB NB cB bB Bf wr ∧ PairsAt wr base D4 GN ∧ Below w.heap.size w wr ∧ base ≤ wr.heap.size) (fun _ iv _ => NA - (intOf iv).toNat)
  case atStart => exact ⟨0, Nat.zero_le _, rfl, World.ownsRow_nil _ _ _ _, hAsh.out, hBsh.out, hDz.out, hBz.out, hzz⟩
  case round =>
    clear hAsh hBsh hDz hBz
    obtain ⟨k, hk, rfl, hown, hSA, hSB, hD, hBw, hz⟩ := hrel
    obtain ⟨out, rfl⟩ : ∃ o, o = u21 := ⟨_, rfl⟩
    by_cases hlt : k < NA
    · obtain ⟨⟨t1, t2, t3⟩, hx⟩ : ∃ t, (A.map (·.1))[k]? = some t := ⟨_, List.getElem?_eq_getElem (by rw [List.length_map, hNA.out]; exact hlt)⟩
      obtain ⟨b, off, ec, hb, c0, c1, c2⟩ := t3_at hSA.rw hx
      subst ec
      dsimp only at c0 c1 c2
      have hbw : b < wr.heap.size := by omega
      have hN1 : Hid (((A.map (·.1)).take (k + 1)).flatMap f = ((A.map (·.1)).take k).flatMap f ++ addL day kn 1 (t1, t2, t3) (wrap64 (lookX A (t1, t2, t3) - lookX Bf (t1, t2, t3)))) := by
        show _ = _
        rw [flat_snoc hx]
        simp only [hf.out]
      obtain ⟨E0, hE0⟩ : ∃ E0, ((A.map (·.1)).take k).flatMap f = E0 := ⟨_, rfl⟩
      have hE0l : E0.length ≤ 200000 := by
        rw [← hE0]
        have h1 := hfl.out ((A.map (·.1)).take k)
        rw [List.length_take] at h1
        omega
      rw [hE0] at hown hN1
      clear hx hE0
      go_upto_region 8 with fail
      have hlo : ∀ g, out.ownBlock = some g → base ≤ g ∧ g < wr.heap.size := fun g e => own_lt2 hown e
      have hwa : Below wr.heap.size wr (wr.alloc (.cells #[.int .i64 t1, .int .i64 t2, .int .i64 t3] 74)) := below_new wr _
      have hs10 := hSA.ls
      have hsb0 := hSA.lb
      obtain ⟨nA, hnA⟩ : ∃ n, lookX A (t1, t2, t3) = n := ⟨_, rfl⟩
      have hs11 := hSB.ls
      have hsb1 := hSB.lb
      obtain ⟨nB, hnB⟩ : ∃ n, lookX Bf (t1, t2, t3) = n := ⟨_, rfl⟩
      have hkl := hSA.lk
      have hk0 : (wr.alloc (.cells #[.int .i64 t1, .int .i64 t2, .int .i64 t3] 74)).cell? ⟨w4.heap.size, 0, none⟩ = some (.int .i64 day) := (hSA.bk.below hwa (by omega)).cell rfl
      have hk1 : (wr.alloc (.cells #[.int .i64 t1, .int .i64 t2, .int .i64 t3] 74)).cell? ⟨w4.heap.size, 1, none⟩ = some (.int .i64 kn) := (hSA.bk.below hwa (by omega)).cell rfl
      have hk2 : (wr.alloc (.cells #[.int .i64 t1, .int .i64 t2, .int .i64 t3] 74)).cell? ⟨w4.heap.size, 2, none⟩ = some (.int .i64 1) := (hSA.bk.below hwa (by omega)).cell rfl
      have ht0 : (wr.alloc (.cells #[.int .i64 t1, .int .i64 t2, .int .i64 t3] 74)).cell? ⟨wr.heap.size, 0, none⟩ = some (.int .i64 t1) := (RT.Box.new wr _ _).cell rfl
      have ht1 : (wr.alloc (.cells #[.int .i64 t1, .int .i64 t2, .int .i64 t3] 74)).cell? ⟨wr.heap.size, 1, none⟩ = some (.int .i64 t2) := (RT.Box.new wr _ _).cell rfl
      have ht2 : (wr.alloc (.cells #[.int .i64 t1, .int .i64 t2, .int .i64 t3] 74)).cell? ⟨wr.heap.size, 2, none⟩ = some (.int .i64 t3) := (RT.Box.new wr _ _).cell rfl
      have hm0 : (wr.alloc (.cells #[.int .i64 t1, .int .i64 t2, .int .i64 t3] 74)).cell? ⟨w6.heap.size + 1, 1, none⟩ = some (.map (some bA)) := (hSA.bs.below hwa (by omega)).cell rfl
      have hm1 : (wr.alloc (.cells #[.int .i64 t1, .int .i64 t2, .int .i64 t3] 74)).cell? ⟨w6.heap.size, 1, none⟩ = some (.map (some bB)) := (hSB.bs.below hwa (by omega)).cell rfl
      have hl0 := hSA.look t1 t2 t3 (wr.alloc (.cells #[.int .i64 t1, .int .i64 t2, .int .i64 t3] 74)).drew (hwa.block bA (by omega))
      rw [hnA] at hl0
      have hl1 := hSB.look t1 t2 t3 (wr.alloc (.cells #[.int .i64 t1, .int .i64 t2, .int .i64 t3] 74)).drew (hwa.block bB (by omega))
      rw [hnB] at hl1
      have hownW : (wr.alloc (.cells #[.int .i64 t1, .int .i64 t2, .int .i64 t3] 74)).drew.ownsRow base 46 7 out E0.length (E0.flatMap etC) := (row_below hown hwa).drew
      have KA := sadd_any day kn 1 t1 t2 t3 (IntKind.i64.wrap (nA - nB)) out E0 (wr.alloc (.cells #[.int .i64 t1, .int .i64 t2, .int .i64 t3] 74)).drew hownW (by show base ≤ (wr.alloc (.cells #[.int .i64 t1, .int .i64 t2, .int .i64 t3] 74)).heap.size; simp; omega) (by omega)
      have HKA := Lib.hid KA
      clear KA hownW
      refine Plan.wp_region_plan (fun wx => wx.cell? ⟨w4.heap.size, 0, none⟩ = some (.int .i64 day) ∧ wx.cell? ⟨w4.heap.size, 1, none⟩ = some (.int .i64 kn) ∧ wx.cell? ⟨w4.heap.size, 2, none⟩ = some (.int .i64 1) ∧ wx.cell? ⟨wr.heap.size, 0, none⟩ = some (.int .i64 t1) ∧ wx.cell? ⟨wr.heap.size, 1, none⟩ = some (.int .i64 t2) ∧ wx.cell? ⟨wr.heap.size, 2, none⟩ = some (.int .i64 t3) ∧ wx.cell? ⟨w6.heap.size + 1, 1, none⟩ = some (.map (some bA)) ∧ wx.cell? ⟨w6.heap.size, 1, none⟩ = some (.map (some bB)) ∧ (Instr.lookup 69 (.map (some bA)) (.agg #[.int .i64 t1, .int .i64 t2, .int .i64 t3]) false).run Try.prog wx = .ok (.int .i64 nA) wx ∧ (Instr.lookup 69 (.map (some bB)) (.agg #[.int .i64 t1, .int .i64 t2, .int .i64 t3]) false).run Try.prog wx = .ok (.int .i64 nB) wx) 13 [(0, true), (1, true), (2, true), (3, true), (4, true), (5, true), (6, true), (7, true), (8, true), (9, true), (10, true), (11, true), (12, false), (13, false)] (by kernel_rfl) (by kernel_rfl) ⟨hk0, hk1, hk2, ht0, ht1, ht2, hm0, hm1, hl0, hl1⟩ ?_
      (repeat (refine Plan.plan_read (v := ?_) rfl rfl ?_ ?_; rotate_left; (focus ((intro wS hSw; (try dsimp only at hSw); go_simp); try with_reducible rfl)); simp only [Act.put, List.setIfInBounds_toArray, List.set_cons_zero, List.set_cons_succ]))
      refine Plan.plan_write rfl (fun K hK => ?_)
      go_simp
      go_at_call 25
      (with_reducible refine HKA.out.mono ?_)
      rintro e5 w5 ⟨out5, rfl, hown5, hgr5⟩
      try go_simp
      have cf := Plan.grown_cells hgr5
      have hk0' : w5.cell? ⟨w4.heap.size, 0, none⟩ = some (.int .i64 day) := (cf _ _ (by show _ < (wr.alloc (.cells #[.int .i64 t1, .int .i64 t2, .int .i64 t3] 74)).heap.size; simp <;> omega) (fun e => by have := hlo _ e.symm; omega)).trans hk0
      have hk1' : w5.cell? ⟨w4.heap.size, 1, none⟩ = some (.int .i64 kn) := (cf _ _ (by show _ < (wr.alloc (.cells #[.int .i64 t1, .int .i64 t2, .int .i64 t3] 74)).heap.size; simp <;> omega) (fun e => by have := hlo _ e.symm; omega)).trans hk1
      have hk2' : w5.cell? ⟨w4.heap.size, 2, none⟩ = some (.int .i64 1) := (cf _ _ (by show _ < (wr.alloc (.cells #[.int .i64 t1, .int .i64 t2, .int .i64 t3] 74)).heap.size; simp <;> omega) (fun e => by have := hlo _ e.symm; omega)).trans hk2
      have ht0' : w5.cell? ⟨wr.heap.size, 0, none⟩ = some (.int .i64 t1) := (cf _ _ (by show _ < (wr.alloc (.cells #[.int .i64 t1, .int .i64 t2, .int .i64 t3] 74)).heap.size; simp <;> omega) (fun e => by have := hlo _ e.symm; omega)).trans ht0
      have ht1' : w5.cell? ⟨wr.heap.size, 1, none⟩ = some (.int .i64 t2) := (cf _ _ (by show _ < (wr.alloc (.cells #[.int .i64 t1, .int .i64 t2, .int .i64 t3] 74)).heap.size; simp <;> omega) (fun e => by have := hlo _ e.symm; omega)).trans ht1
      have ht2' : w5.cell? ⟨wr.heap.size, 2, none⟩ = some (.int .i64 t3) := (cf _ _ (by show _ < (wr.alloc (.cells #[.int .i64 t1, .int .i64 t2, .int .i64 t3] 74)).heap.size; simp <;> omega) (fun e => by have := hlo _ e.symm; omega)).trans ht2
      have hm0' : w5.cell? ⟨w6.heap.size + 1, 1, none⟩ = some (.map (some bA)) := (cf _ _ (by show _ < (wr.alloc (.cells #[.int .i64 t1, .int .i64 t2, .int .i64 t3] 74)).heap.size; simp <;> omega) (fun e => by have := hlo _ e.symm; omega)).trans hm0
      have hm1' : w5.cell? ⟨w6.heap.size, 1, none⟩ = some (.map (some bB)) := (cf _ _ (by show _ < (wr.alloc (.cells #[.int .i64 t1, .int .i64 t2, .int .i64 t3] 74)).heap.size; simp <;> omega) (fun e => by have := hlo _ e.symm; omega)).trans hm1
      have hl0' := hSA.look t1 t2 t3 w5 ((hgr5.block bA (by show _ < (wr.alloc (.cells #[.int .i64 t1, .int .i64 t2, .int .i64 t3] 74)).heap.size; simp <;> omega) (fun e => by have := hlo _ e.symm; omega)).trans (hwa.block bA (by omega)))
      rw [hnA] at hl0'
      have hl1' := hSB.look t1 t2 t3 w5 ((hgr5.block bB (by show _ < (wr.alloc (.cells #[.int .i64 t1, .int .i64 t2, .int .i64 t3] 74)).heap.size; simp <;> omega) (fun e => by have := hlo _ e.symm; omega)).trans (hwa.block bB (by omega)))
      rw [hnB] at hl1'
      refine hK.out _ _ ⟨hk0', hk1', hk2', ht0', ht1', ht2', hm0', hm1', hl0', hl1'⟩ ?_
      clear hK K
      try simp only [Act.put, List.setIfInBounds_toArray, List.set_cons_zero, List.set_cons_succ]
      (repeat (refine Plan.plan_read (v := ?_) rfl rfl ?_ ?_; rotate_left; (focus ((intro wS hSw; (try dsimp only at hSw); go_simp); try with_reducible rfl)); simp only [Act.put, List.setIfInBounds_toArray, List.set_cons_zero, List.set_cons_succ]))
      refine Plan.plan_last rfl (fun K hK => ?_)
      go_simp
      refine hK.out _ _ ?_
      clear hK K
      try simp only [Act.put, List.setIfInBounds_toArray, List.set_cons_zero, List.set_cons_succ]
      have hb5 : Below base wr w5 := ((hwa.mono (by omega)).drew).grown hgr5 (by show base ≤ (wr.alloc (.cells #[.int .i64 t1, .int .i64 t2, .int .i64 t3] 74)).heap.size; simp; omega) (fun g e => (hlo g e).1)
      clear hk0 hk1 hk2 ht0 ht1 ht2 hm0 hm1 hk0' hk1' hk2' ht0' ht1' ht2' hm0' hm1' hl0 hl1 hl0' hl1' cf hgr5 hwa hlo HKA
      go_wp2_with fail
      have hownN : w5.ownsRow base 46 7 out5 (((A.map (·.1)).take (k + 1)).flatMap f).length ((((A.map (·.1)).take (k + 1)).flatMap f).flatMap etC) := by rw [hN1.out, hnA, hnB, ← IntWalk.i64_left]; exact hown5
      have hSAN := hSA.below hb5
      have hSBN := hSB.below hb5
      have hDN := hD.below hb5
      have hBN := hBw.trans (hb5.mono (by omega))
      have hzN : base ≤ w5.heap.size := by have := hb5.size; omega
      clear hSA hSB hD hBw hb5 hown5 hnA hnB hN1 c0 c1 c2 hown
      go_roundw
      case rel => exact ⟨k + 1, by omega, by go_num, hownN, hSAN, hSBN, hDN, hBN, hzN⟩
      case measure => simp [intOf]; omega
    · obtain rfl : NA = k := by omega
      have hE : ((A.map (·.1)).take NA).flatMap f = afterL day kn Bf A := by
        rw [← hNA.out, show A.length = (A.map (·.1)).length by simp, List.take_length, hf.out]
        rfl
      rw [hE] at hown
      have hE1 : (afterL day kn Bf A).length ≤ 200000 := by
        rw [← hE]
        have h1 := hfl.out ((A.map (·.1)).take NA)
        rw [List.length_take] at h1
        omega
      clear hE hf hfl hlt hk
      obtain ⟨E1, hE1e⟩ : ∃ E1, Hid (afterL day kn Bf A = E1) := ⟨_, rfl⟩
      rw [hE1e.out] at hown hE1
      obtain ⟨f, hf⟩ : ∃ f : SP.T3 → List LD.Et, Hid (f = fun t => addL day kn 1 t (wrap64 (-lookX Bf t))) := ⟨_, rfl⟩
      have hfl : Hid (∀ T : List SP.T3, (T.flatMap f).length ≤ 2 * T.length) := fun T => flat_len (fun t => by rw [hf.out]; exact addL_len _ _ _ _ _) T
      obtain ⟨w7, rfl⟩ : ∃ w7, w7 = wr := ⟨_, rfl⟩
      obtain ⟨out7, rfl⟩ : ∃ o, o = out := ⟨_, rfl⟩
      have zs : w7.cell? ⟨w6.heap.size, 0, none⟩ = some (.slice CB NB cB) := hSB.bs.cell rfl
      go_wp2_with fail
      clear zs
      have HOW := Lib.hid hown
      have HSA := Lib.hid hSA
      have HSB := Lib.hid hSB
      have HD := Lib.hid hD
      have HB := Lib.hid hBw
      have hz7 := hz
      clear hown hSA hSB hD hBw hz
      go_loopw [21, 68] (fun out iv wr => ∃ k : Nat, k ≤ NB ∧ iv = .int .i64 k ∧ wr.ownsRow base 46 7 out (E1 ++ (((Bf.map (·.1)).take k).filter (gone A)).flatMap f).length ((E1 ++ (((Bf.map (·.1)).take k).filter (gone A)).flatMap f).flatMap etC) ∧ ShW base day kn 1 w4.heap.size (w6.heap.size + 1) CA NA cA bA A wr ∧ ShW base day kn 1 w4.heap.size w6.heap.size CB NB cB bB Bf wr ∧ PairsAt wr base D4 GN ∧ Below w.heap.size w wr ∧ base ≤ wr.heap.size) (fun _ iv _ => NB - (intOf iv).toNat)
      case atStart => exact ⟨0, Nat.zero_le _, rfl, by simpa using HOW.out, HSA.out, HSB.out, HD.out, HB.out, hz7⟩
      case round =>
        clear HOW HSA HSB HD HB
        obtain ⟨k, hk, rfl, hown, hSA, hSB, hD, hBw, hz⟩ := hrel
        obtain ⟨out, rfl⟩ : ∃ o, o = u21 := ⟨_, rfl⟩
        by_cases hlt : k < NB
        · obtain ⟨⟨t1, t2, t3⟩, hx⟩ : ∃ t, (Bf.map (·.1))[k]? = some t := ⟨_, List.getElem?_eq_getElem (by rw [List.length_map, hNB.out]; exact hlt)⟩
          obtain ⟨b, off, ec, hb, c0, c1, c2⟩ := t3_at hSB.rw hx
          subst ec
          dsimp only at c0 c1 c2
          have hbw : b < wr.heap.size := by omega
          have hN1 : Hid ((((Bf.map (·.1)).take (k + 1)).filter (gone A)).flatMap f = (((Bf.map (·.1)).take k).filter (gone A)).flatMap f ++ (if gone A (t1, t2, t3) = true then addL day kn 1 (t1, t2, t3) (wrap64 (-lookX Bf (t1, t2, t3))) else [])) := by
            show _ = _
            rw [filt_snoc hx]
            simp only [hf.out]
          obtain ⟨E0, hE0⟩ : ∃ E0, E1 ++ (((Bf.map (·.1)).take k).filter (gone A)).flatMap f = E0 := ⟨_, rfl⟩
          have hE0l : E0.length ≤ 400000 := by
            rw [← hE0]
            have h1 := hfl.out (((Bf.map (·.1)).take k).filter (gone A))
            have h2 := List.length_filter_le (gone A) ((Bf.map (·.1)).take k)
            rw [List.length_take] at h2
            rw [List.length_append]
            omega
          have hN2 : Hid (E1 ++ (((Bf.map (·.1)).take (k + 1)).filter (gone A)).flatMap f = E0 ++ (if gone A (t1, t2, t3) = true then addL day kn 1 (t1, t2, t3) (wrap64 (-lookX Bf (t1, t2, t3))) else [])) := by
            show _ = _
            rw [hN1.out, ← hE0, List.append_assoc]
          rw [hE0] at hown
          clear hx hE0 hN1
          have hlk := hSA.look_ok t1 t2 t3 (wr.alloc (.cells #[.int .i64 t1, .int .i64 t2, .int .i64 t3] 74)) ((below_new wr _).block bA (by have := hSA.lb; omega))
          obtain ⟨nl, hnl⟩ : ∃ n, lookX A (t1, t2, t3) = n := ⟨_, rfl⟩
          rw [hnl] at hlk
          clear hnl
          have hmA : wr.cell? ⟨w6.heap.size + 1, 1, none⟩ = some (.map (some bA)) := hSA.bs.cell rfl
          have hsA : w6.heap.size + 1 < wr.heap.size := by have := hSA.ls; omega
          have hsA2 : w6.heap.size < wr.heap.size := by omega
          cases hgn : gone A (t1, t2, t3)
          · rw [hgn] at hlk hN2
            simp only [Bool.not_false, Bool.false_eq_true, if_false, List.append_nil] at hlk hN2
            go_wp2_with fail
            have hwa : Below wr.heap.size wr (wr.alloc (.cells #[.int .i64 t1, .int .i64 t2, .int .i64 t3] 74)) := below_new wr _
            have hb5 : Below base wr (wr.alloc (.cells #[.int .i64 t1, .int .i64 t2, .int .i64 t3] 74)) := hwa.mono (by omega)
            have hownN : ((wr.alloc (.cells #[.int .i64 t1, .int .i64 t2, .int .i64 t3] 74))).ownsRow base 46 7 out (E1 ++ (((Bf.map (·.1)).take (k + 1)).filter (gone A)).flatMap f).length ((E1 ++ (((Bf.map (·.1)).take (k + 1)).filter (gone A)).flatMap f).flatMap etC) := by rw [hN2.out]; exact row_below hown hwa
            have hSAN := hSA.below hb5
            have hSBN := hSB.below hb5
            have hDN := hD.below hb5
            have hBN := hBw.trans (hb5.mono (by omega))
            have hzN : base ≤ ((wr.alloc (.cells #[.int .i64 t1, .int .i64 t2, .int .i64 t3] 74))).heap.size := by have := hb5.size; omega
            clear hSA hSB hD hBw hb5 hwa hown hN2 c0 c1 c2 hlk hmA
            go_roundw
            case rel => exact ⟨k + 1, by omega, by go_num, hownN, hSAN, hSBN, hDN, hBN, hzN⟩
            case measure => simp [intOf]; omega
          · rw [hgn] at hlk hN2
            simp only [Bool.not_true, if_true] at hlk hN2
            go_upto_region 15 with fail
            clear hlk hmA
            have hlo : ∀ g, out.ownBlock = some g → base ≤ g ∧ g < wr.heap.size := fun g e => own_lt2 hown e
            have hwa : Below wr.heap.size wr (wr.alloc (.cells #[.int .i64 t1, .int .i64 t2, .int .i64 t3] 74)) := below_new wr _
            have hs10 := hSB.ls
            have hsb0 := hSB.lb
            obtain ⟨nB, hnB⟩ : ∃ n, lookX Bf (t1, t2, t3) = n := ⟨_, rfl⟩
            have hkl := hSB.lk
            have hk0 : (wr.alloc (.cells #[.int .i64 t1, .int .i64 t2, .int .i64 t3] 74)).cell? ⟨w4.heap.size, 0, none⟩ = some (.int .i64 day) := (hSB.bk.below hwa (by omega)).cell rfl
            have hk1 : (wr.alloc (.cells #[.int .i64 t1, .int .i64 t2, .int .i64 t3] 74)).cell? ⟨w4.heap.size, 1, none⟩ = some (.int .i64 kn) := (hSB.bk.below hwa (by omega)).cell rfl
            have hk2 : (wr.alloc (.cells #[.int .i64 t1, .int .i64 t2, .int .i64 t3] 74)).cell? ⟨w4.heap.size, 2, none⟩ = some (.int .i64 1) := (hSB.bk.below hwa (by omega)).cell rfl
            have ht0 : (wr.alloc (.cells #[.int .i64 t1, .int .i64 t2, .int .i64 t3] 74)).cell? ⟨wr.heap.size, 0, none⟩ = some (.int .i64 t1) := (RT.Box.new wr _ _).cell rfl
            have ht1 : (wr.alloc (.cells #[.int .i64 t1, .int .i64 t2, .int .i64 t3] 74)).cell? ⟨wr.heap.size, 1, none⟩ = some (.int .i64 t2) := (RT.Box.new wr _ _).cell rfl
            have ht2 : (wr.alloc (.cells #[.int .i64 t1, .int .i64 t2, .int .i64 t3] 74)).cell? ⟨wr.heap.size, 2, none⟩ = some (.int .i64 t3) := (RT.Box.new wr _ _).cell rfl
            have hm0 : (wr.alloc (.cells #[.int .i64 t1, .int .i64 t2, .int .i64 t3] 74)).cell? ⟨w6.heap.size, 1, none⟩ = some (.map (some bB)) := (hSB.bs.below hwa (by omega)).cell rfl
            have hl0 := hSB.look t1 t2 t3 (wr.alloc (.cells #[.int .i64 t1, .int .i64 t2, .int .i64 t3] 74)).drew (hwa.block bB (by omega))
            rw [hnB] at hl0
            have hownW : (wr.alloc (.cells #[.int .i64 t1, .int .i64 t2, .int .i64 t3] 74)).drew.ownsRow base 46 7 out E0.length (E0.flatMap etC) := (row_below hown hwa).drew
            have KA := sadd_any day kn 1 t1 t2 t3 (IntKind.i64.wrap (-nB)) out E0 (wr.alloc (.cells #[.int .i64 t1, .int .i64 t2, .int .i64 t3] 74)).drew hownW (by show base ≤ (wr.alloc (.cells #[.int .i64 t1, .int .i64 t2, .int .i64 t3] 74)).heap.size; simp; omega) (by omega)
            have HKA := Lib.hid KA
            clear KA hownW
            refine Plan.wp_region_plan (fun wx => wx.cell? ⟨w4.heap.size, 0, none⟩ = some (.int .i64 day) ∧ wx.cell? ⟨w4.heap.size, 1, none⟩ = some (.int .i64 kn) ∧ wx.cell? ⟨w4.heap.size, 2, none⟩ = some (.int .i64 1) ∧ wx.cell? ⟨wr.heap.size, 0, none⟩ = some (.int .i64 t1) ∧ wx.cell? ⟨wr.heap.size, 1, none⟩ = some (.int .i64 t2) ∧ wx.cell? ⟨wr.heap.size, 2, none⟩ = some (.int .i64 t3) ∧ wx.cell? ⟨w6.heap.size, 1, none⟩ = some (.map (some bB)) ∧ (Instr.lookup 69 (.map (some bB)) (.agg #[.int .i64 t1, .int .i64 t2, .int .i64 t3]) false).run Try.prog wx = .ok (.int .i64 nB) wx) 9 [(0, true), (1, true), (2, true), (3, true), (4, true), (5, true), (6, true), (7, true), (8, false), (9, false)] (by kernel_rfl) (by kernel_rfl) ⟨hk0, hk1, hk2, ht0, ht1, ht2, hm0, hl0⟩ ?_
            (repeat (refine Plan.plan_read (v := ?_) rfl rfl ?_ ?_; rotate_left; (focus ((intro wS hSw; (try dsimp only at hSw); go_simp); try with_reducible rfl)); simp only [Act.put, List.setIfInBounds_toArray, List.set_cons_zero, List.set_cons_succ]))
            refine Plan.plan_write rfl (fun K hK => ?_)
            go_simp
            go_at_call 25
            (with_reducible refine HKA.out.mono ?_)
            rintro e5 w5 ⟨out5, rfl, hown5, hgr5⟩
            try go_simp
            have cf := Plan.grown_cells hgr5
            have hk0' : w5.cell? ⟨w4.heap.size, 0, none⟩ = some (.int .i64 day) := (cf _ _ (by show _ < (wr.alloc (.cells #[.int .i64 t1, .int .i64 t2, .int .i64 t3] 74)).heap.size; simp <;> omega) (fun e => by have := hlo _ e.symm; omega)).trans hk0
            have hk1' : w5.cell? ⟨w4.heap.size, 1, none⟩ = some (.int .i64 kn) := (cf _ _ (by show _ < (wr.alloc (.cells #[.int .i64 t1, .int .i64 t2, .int .i64 t3] 74)).heap.size; simp <;> omega) (fun e => by have := hlo _ e.symm; omega)).trans hk1
            have hk2' : w5.cell? ⟨w4.heap.size, 2, none⟩ = some (.int .i64 1) := (cf _ _ (by show _ < (wr.alloc (.cells #[.int .i64 t1, .int .i64 t2, .int .i64 t3] 74)).heap.size; simp <;> omega) (fun e => by have := hlo _ e.symm; omega)).trans hk2
            have ht0' : w5.cell? ⟨wr.heap.size, 0, none⟩ = some (.int .i64 t1) := (cf _ _ (by show _ < (wr.alloc (.cells #[.int .i64 t1, .int .i64 t2, .int .i64 t3] 74)).heap.size; simp <;> omega) (fun e => by have := hlo _ e.symm; omega)).trans ht0
            have ht1' : w5.cell? ⟨wr.heap.size, 1, none⟩ = some (.int .i64 t2) := (cf _ _ (by show _ < (wr.alloc (.cells #[.int .i64 t1, .int .i64 t2, .int .i64 t3] 74)).heap.size; simp <;> omega) (fun e => by have := hlo _ e.symm; omega)).trans ht1
            have ht2' : w5.cell? ⟨wr.heap.size, 2, none⟩ = some (.int .i64 t3) := (cf _ _ (by show _ < (wr.alloc (.cells #[.int .i64 t1, .int .i64 t2, .int .i64 t3] 74)).heap.size; simp <;> omega) (fun e => by have := hlo _ e.symm; omega)).trans ht2
            have hm0' : w5.cell? ⟨w6.heap.size, 1, none⟩ = some (.map (some bB)) := (cf _ _ (by show _ < (wr.alloc (.cells #[.int .i64 t1, .int .i64 t2, .int .i64 t3] 74)).heap.size; simp <;> omega) (fun e => by have := hlo _ e.symm; omega)).trans hm0
            have hl0' := hSB.look t1 t2 t3 w5 ((hgr5.block bB (by show _ < (wr.alloc (.cells #[.int .i64 t1, .int .i64 t2, .int .i64 t3] 74)).heap.size; simp <;> omega) (fun e => by have := hlo _ e.symm; omega)).trans (hwa.block bB (by omega)))
            rw [hnB] at hl0'
            refine hK.out _ _ ⟨hk0', hk1', hk2', ht0', ht1', ht2', hm0', hl0'⟩ ?_
            clear hK K
            try simp only [Act.put, List.setIfInBounds_toArray, List.set_cons_zero, List.set_cons_succ]
            (repeat (refine Plan.plan_read (v := ?_) rfl rfl ?_ ?_; rotate_left; (focus ((intro wS hSw; (try dsimp only at hSw); go_simp); try with_reducible rfl)); simp only [Act.put, List.setIfInBounds_toArray, List.set_cons_zero, List.set_cons_succ]))
            refine Plan.plan_last rfl (fun K hK => ?_)
            go_simp
            refine hK.out _ _ ?_
            clear hK K
            try simp only [Act.put, List.setIfInBounds_toArray, List.set_cons_zero, List.set_cons_succ]
            have hb5 : Below base wr w5 := ((hwa.mono (by omega)).drew).grown hgr5 (by show base ≤ (wr.alloc (.cells #[.int .i64 t1, .int .i64 t2, .int .i64 t3] 74)).heap.size; simp; omega) (fun g e => (hlo g e).1)
            clear hk0 hk1 hk2 ht0 ht1 ht2 hm0 hk0' hk1' hk2' ht0' ht1' ht2' hm0' hl0 hl0' cf hgr5 hwa hlo HKA
            go_wp2_with fail
            have hownN : w5.ownsRow base 46 7 out5 (E1 ++ (((Bf.map (·.1)).take (k + 1)).filter (gone A)).flatMap f).length ((E1 ++ (((Bf.map (·.1)).take (k + 1)).filter (gone A)).flatMap f).flatMap etC) := by rw [hN2.out, hnB, ← IntWalk.i64_left]; exact hown5
            have hSAN := hSA.below hb5
            have hSBN := hSB.below hb5
            have hDN := hD.below hb5
            have hBN := hBw.trans (hb5.mono (by omega))
            have hzN : base ≤ w5.heap.size := by have := hb5.size; omega
            clear hSA hSB hD hBw hb5 hown5 hnB hN2 c0 c1 c2 hown
            go_roundw
            case rel => exact ⟨k + 1, by omega, by go_num, hownN, hSAN, hSBN, hDN, hBN, hzN⟩
            case measure => simp [intOf]; omega
        · obtain rfl : NB = k := by omega
          have hE : E1 ++ (((Bf.map (·.1)).take NB).filter (gone A)).flatMap f = correctL day kn Bf A := by
            rw [← hNB.out, show Bf.length = (Bf.map (·.1)).length by simp, List.take_length, hf.out, ← hE1e.out]
            rfl
          rw [hE] at hown
          obtain ⟨C9, cc, hv, hrow, _⟩ := rowk_of_owns et_len hown
          have hD9 := hD.more hz
          go_wp2_with fail
          go_ret2
          exact ⟨D4, cd, C9, cc, by rw [hv]; rfl, hD9, hrow, hBw⟩
end Go.Proofs.Ythoigjkelinjhaa

