/- The walk of begin. -/
import Derived.Test.YthoigjkelinjhaaW2
import Derived.Test.YthoigjkelinjhaaPlan
import Derived.Deep.DrawnRows
import Derived.Deep.DeepCutAuto
import Derived.IntWalk
set_option linter.unusedSimpArgs false
set_option linter.unusedVariables false
namespace Go.Proofs.Ythoigjkelinjhaa
open Go.RowKit CM
attribute [local go_sem] alloc_drewN setCell_drewN shape_drewN

def supF (S : List Int) (p : Nat) : Int := S.getD p 0
/-- What is there while the water of place k goes down: the first j places have it. -/
def midN (pl : Pl) (S : List Int) (k : Nat) (l : List Nat) (q : Nat) : Int := if q ∈ l then satA (thereN pl (supF S) k q) (supF S k) else thereN pl (supF S) k q
def thV (pl : Pl) (S : List Int) (k : Nat) : Nat → Value := fun q => .int .i64 (thereN pl (supF S) k q)
def midV (pl : Pl) (S : List Int) (k : Nat) (l : List Nat) : Nat → Value := fun q => .int .i64 (midN pl S k l q)
theorem thV_dry {pl : Pl} {S : List Int} {k : Nat} (h : ¬ 0 < supF S k) : thV pl S (k + 1) = thV pl S k := by
  funext q; unfold thV; rw [thereN_succ, if_neg (fun g => h g.1)]
theorem midV_nil (pl : Pl) (S : List Int) (k : Nat) : midV pl S k [] = thV pl S k := by
  funext q; unfold midV thV midN; rw [if_neg (by simp)]
theorem midV_all {pl : Pl} {S : List Int} {k : Nat} (h : 0 < supF S k) : midV pl S k (reach pl k) = thV pl S (k + 1) := by
  funext q; unfold midV thV midN; rw [thereN_succ]
  by_cases g : q ∈ reach pl k
  · rw [if_pos g, if_pos ⟨h, g⟩]
  · rw [if_neg g, if_neg (fun e => g e.2)]
theorem midV_snoc (pl : Pl) (S : List Int) (k : Nat) (l : List Nat) (q j : Nat) : updF (midV pl S k l) q (.int .i64 (satA (thereN pl (supF S) k q) (supF S k))) j = midV pl S k (l ++ [q]) j := by
  unfold updF midV midN
  by_cases h : j = q
  · subst h; simp
  · rw [if_neg h]; simp [h]
theorem supF_in {S : List Int} (hS : ∀ x ∈ S, In64 x) (p : Nat) : In64 (supF S p) := by
  unfold supF
  rw [List.getD_eq_getElem?_getD]
  cases e : S[p]? with
  | none => simp [In64]
  | some x => exact hS x (List.mem_of_getElem? e)
theorem midN_new {pl : Pl} {S : List Int} {k : Nat} {l : List Nat} {q : Nat} (h : q ∉ l) : midN pl S k l q = thereN pl (supF S) k q := if_neg h
/-- What begin leaves. -/
def BeginIs (pl : Pl) (S : List Int) (w : World) (e : Ending) (w' : World) : Prop := e = .returned (.slice (some ⟨w.heap.size + 1, 0, none⟩) pl.length pl.length) ∧ Arr w' (w.heap.size + 1) pl.length (thV pl S (min pl.length S.length)) ∧ Below w.heap.size w w' ∧ w.heap.size + 1 < w'.heap.size
def ListAt (w : World) (b off : Nat) (l : List Nat) : Prop := ∀ (j q : Nat), l[j]? = some q → w.cell? ⟨b, off + j, none⟩ = some (.int .i64 (q : Int))
theorem ListAt.far {w : World} {b off : Nat} {l : List Nat} (h : ListAt w b off l) {p : Addr} (hp : b ≠ p.block) (u : Value) : ListAt (w.setCell p u) b off l := fun j q hj =>
  (World.cell?_of_block (a := ⟨b, off + j, none⟩) (Below.heap_setCell w p u b hp)).trans (h j q hj)
theorem reach_list {w w' : World} {pl : Pl} {k : Nat} {C : Option Addr} (hk : k < pl.length) (hI : IntsAt w' w'.heap.size C (natsI (reach pl k))) (hF : ∀ a, C = some a → w.heap.size ≤ a.block) :
    ∃ b off, C = some ⟨b, off, none⟩ ∧ w.heap.size ≤ b ∧ b < w'.heap.size ∧ ListAt w' b off (reach pl k) := by
  have hne : 0 < (reach pl k).length := by
    rcases Nat.eq_zero_or_pos (reach pl k).length with h | h
    · exact absurd (List.eq_nil_of_length_eq_zero h) (fun e => reach_nil.1 e (by omega))
    · exact h
  obtain ⟨b, off, e, hb, hc⟩ := hI (by simpa [natsI] using hne)
  refine ⟨b, off, e, hF _ e, hb, fun j q hj => ?_⟩
  have hlt := (List.getElem?_eq_some_iff.1 hj).1
  rw [hc j (by simpa [natsI] using hlt)]
  simp [intF, natsI, List.getD_eq_getElem?_getD, hj]
theorem take_snoc {l : List Nat} {j q : Nat} (h : l[j]? = some q) : l.take (j + 1) = l.take j ++ [q] := by rw [List.take_add_one, h]; rfl
theorem take_new {l : List Nat} (hn : l.Nodup) {j q : Nat} (h : l[j]? = some q) : q ∉ l.take j := by
  intro hm
  obtain ⟨i, hi, e⟩ := List.getElem_of_mem hm
  have hi2 : i < j := by simp at hi; omega
  obtain ⟨hj, e2⟩ := List.getElem?_eq_some_iff.1 h
  rw [List.getElem_take, ← e2] at e
  have := (List.getElem_inj hn).1 e
  omega
set_option maxRecDepth 100000 in
set_option maxHeartbeats 4000000 in
theorem begin_any (X : Bas) (pl : Pl) (S : List Int) (C : Option Addr) (cc : Nat) (w : World) {B : Nat} (hP : PlacesAt w B X.P pl) (hC : IntsAt w B C S) (hB : B ≤ w.heap.size) (hl : pl.length ≤ 1000000) (hs : S.length ≤ 9223372036854775807) (hS : ∀ x ∈ S, In64 x) :
    Calls Try.prog 21 #[.agg #[.string X.nm, .slice X.a1 X.l1 X.c1, .int .i64 X.cl, .slice X.P pl.length X.cP, .slice X.a4 X.l4 X.c4, .slice X.a5 X.l5 X.c5, .slice X.a6 X.l6 X.c6, .slice X.a7 X.l7 X.c7, .slice X.a8 X.l8 X.c8, .slice X.a9 X.l9 X.c9, .int .i64 X.er], .slice C S.length cc] w (BeginIs pl S w) := by
  obtain ⟨i0, hi, hz0, hz1, hz2⟩ := info_parts Try.infoInt
  have hmk := fun wx => run_make1 (P := Try.prog) 29 3 i0 (.int .i64 0) Try.underlying29 hi hz0 hz1 rfl pl.length pl.length (Nat.le_refl _) (by rw [hz2]; omega) (by omega) wx
  have K1 := Lib.hid (fun (p : Int) (wx : World) (hp : PlacesAt wx B X.P pl) (hb : B ≤ wx.heap.size) => reach_any X pl p wx hp hb hl)
  obtain ⟨m, hm⟩ : ∃ m, m = min pl.length S.length := ⟨_, rfl⟩
  have e1 : (if (S.length : Int) < (pl.length : Int) then (S.length : Int) else (pl.length : Int)) = (m : Int) := by split <;> omega
  have e3 : (if S.length < pl.length then (S.length : Int) else (pl.length : Int)) = (m : Int) := by split <;> omega
  have e2 : min (pl.length : Int) (S.length : Int) = (m : Int) := by omega
  have hmL : m ≤ pl.length ∧ m ≤ S.length := by omega
  have Hm := Lib.hid hm
  clear hm
  have HP := Lib.hid hP
  clear hP
  go_enter Try.func21, Try.ntmps21
  go_wp2_with fail
  clear hmk e1 e2 e3
  go_loopw [19] (fun i wr => ∃ k : Nat, k ≤ m ∧ i = .int .i64 k ∧ Arr wr (w.heap.size + 1) pl.length (thV pl S k) ∧ BoxB wr w.heap.size X pl ∧ Below w.heap.size w wr ∧ w.heap.size + 1 < wr.heap.size) (fun i _ => m - (intOf i).toNat)
  case atStart =>
    refine ⟨0, Nat.zero_le _, rfl, ?_, ?_, ((Below.refl _ _).alloc (Nat.le_refl _) _).alloc (by simp) _, by simp⟩
    · have m1 := Arr.made (w.alloc (.cells #[.string X.nm, .slice X.a1 X.l1 X.c1, .int .i64 X.cl, .slice X.P pl.length X.cP, .slice X.a4 X.l4 X.c4, .slice X.a5 X.l5 X.c5, .slice X.a6 X.l6 X.c6, .slice X.a7 X.l7 X.c7, .slice X.a8 X.l8 X.c8, .slice X.a9 X.l9 X.c9, .int .i64 X.er] 31)) (.int .i64 0) pl.length 3
      rw [World.size_alloc] at m1
      exact m1.congr (fun j _ => rfl)
    · exact (BoxB.new w X pl).below (B := w.heap.size + 1) ((Below.refl _ _).alloc (by simp) _) (by omega)
  case round =>
    obtain ⟨k, hk, rfl, hA, hX, hBw, hz⟩ := hrel
    obtain ⟨x0, x1, x2, x3, x4, x5, x6, x7, x8, x9, x10⟩ := hX.cells
    by_cases hlt : k < m
    · obtain ⟨x, hx⟩ : ∃ x, S[k]? = some x := ⟨_, List.getElem?_eq_getElem (by omega)⟩
      obtain ⟨b, off, rfl, hb, c0⟩ := hC.at_ hx
      have c0 := (hBw.cell (p := ⟨b, off + k, none⟩) (by show b < _; omega)).trans c0
      have hxE : Hid (supF S k = x) := by show _ = _; unfold supF; rw [List.getD_eq_getElem?_getD, hx]; rfl
      have hxI : In64 x := hS x (List.mem_of_getElem? hx)
      clear hx
      by_cases hx0 : x ≤ 0
      · have hA1 : Arr wr (w.heap.size + 1) pl.length (thV pl S (k + 1)) := by rw [thV_dry (by rw [hxE.out]; omega)]; exact hA
        clear hA
        go_wp2_with fail
        go_roundw
        case rel => exact ⟨k + 1, by omega, by go_num, hA1, hX, hBw, hz⟩
        case measure => simp [intOf]; omega
      · have K2 := Lib.hid (K1.out (k : Int) wr (HP.out.below (hBw.mono hB)) (by omega))
        have hpos : Hid (0 < supF S k) := Lib.hid (by rw [hxE.out]; omega)
        go_wp2_with (first | (go_at_call 22; ((with_reducible refine (K2.out).mono ?_); rintro e1 w1 ⟨C1, cc1, rfl, hI, hF, hb1⟩; obtain ⟨b2, o2, rfl, h2a, h2b, hL⟩ := reach_list (by omega) hI hF; have c0 := (hb1.cell (p := ⟨b, off + k, none⟩) (by show b < _; have := hBw.size; omega)).trans c0)) | fail)
        have hLl : (reach pl k).length ≤ pl.length := nodup_len _ _ (reach_nodup pl k) (fun q hq => reach_lt hq)
        clear hI hF
        have hX1 := hX.below hb1 (by omega)
        have hA1 : Arr w1 (w.heap.size + 1) pl.length (midV pl S k ((reach pl k).take 0)) := by rw [List.take_zero, midV_nil]; exact hA.below hb1 (by omega)
        have hB1 := hBw.trans (hb1.mono hBw.size)
        have hz1' : w.heap.size + 1 < w1.heap.size := by have := hb1.size; omega
        clear hA hX x0 x1 x2 x3 x4 x5 x6 x7 x8 x9 x10 hBw
        go_loopw [31] (fun i2 wi => ∃ j : Nat, j ≤ (reach pl k).length ∧ i2 = .int .i64 j ∧ Arr wi (w.heap.size + 1) pl.length (midV pl S k ((reach pl k).take j)) ∧ BoxB wi w.heap.size X pl ∧ Below w.heap.size w wi ∧ w.heap.size + 1 < wi.heap.size ∧ ListAt wi b2 o2 (reach pl k) ∧ wi.cell? ⟨b, off + k, none⟩ = some (.int .i64 x)) (fun i2 _ => (reach pl k).length - (intOf i2).toNat)
        case atStart => exact ⟨0, Nat.zero_le _, rfl, hA1, hX1, hB1, hz1', hL, c0⟩
        case round =>
          clear hA1 hX1 hB1 hz1' hL c0
          obtain ⟨j, hj, rfl, hA, hX, hBw, hz1, hL, c0⟩ := hrel
          by_cases hjl : j < (reach pl k).length
          · obtain ⟨q, hq⟩ : ∃ q, (reach pl k)[j]? = some q := ⟨_, List.getElem?_eq_getElem hjl⟩
            have hqn : q < pl.length := reach_lt (List.mem_of_getElem? hq)
            have hqt := take_new (reach_nodup pl k) hq
            have c1 := hL j q hq
            obtain ⟨a0, f0⟩ := hA q hqn
            have hm0 : midV pl S k ((reach pl k).take j) q = .int .i64 (thereN pl (supF S) k q) := by unfold midV; rw [midN_new hqt]
            rw [hm0] at a0
            have hAn : Arr (wr.setCell ⟨w.heap.size + 1, q, none⟩ (.int .i64 (satA (thereN pl (supF S) k q) x))) (w.heap.size + 1) pl.length (midV pl S k ((reach pl k).take (j + 1))) := by
              rw [take_snoc hq, ← hxE.out]
              exact (hA.set hqn _).congr (fun i _ => midV_snoc pl S k _ q i)
            have hV : In64 (thereN pl (supF S) k q) := by have := thereN_in (pl := pl) (sup := supF S) (fun p => supF_in hS p) k q; unfold In64; omega
            obtain ⟨V, hVE⟩ : ∃ V, V = thereN pl (supF S) k q := ⟨_, rfl⟩
            rw [← hVE] at hV a0 hAn
            have K3 := Lib.hid (fun wx => add_any V x wx hV hxI)
            clear hm0 hqt hq hVE
            go_upto_region 9 with fail
            refine Plan.wp_region_plan (fun w' => w'.cell? ⟨w.heap.size + 1, q, none⟩ = some (.int .i64 V) ∧ w'.cell? ⟨b, off + k, none⟩ = some (.int .i64 x) ∧ w'.frozen? ⟨w.heap.size + 1, q, none⟩ = false) 12 [(0, true), (1, true), (2, true), (3, true), (4, true), (5, true), (6, true), (7, true), (8, true), (9, true), (10, false), (11, true), (12, false)] (by kernel_rfl) (by kernel_rfl) ?_ ?_
            · refine ⟨?_, ?_, ?_⟩ <;> go_simp
            have hks : k < S.length := by omega
            (repeat (refine Plan.plan_read (v := ?_) rfl rfl ?_ ?_; rotate_left; (focus ((intro wS hSw; (try dsimp only at hSw); go_simp); try with_reducible rfl)); simp only [Act.put, List.setIfInBounds_toArray, List.set_cons_zero, List.set_cons_succ]))
            refine Plan.plan_write rfl (fun K hK => ?_)
            go_simp
            go_at_call 38
            (with_reducible refine (K3.out _).mono ?_)
            rintro e1 w2 ⟨rfl, rfl⟩
            go_simp
            refine hK.out _ _ ?_ ?_
            · refine ⟨?_, ?_, ?_⟩ <;> go_simp
            clear hK K
            try simp only [Act.put, List.setIfInBounds_toArray, List.set_cons_zero, List.set_cons_succ]
            (repeat (refine Plan.plan_read (v := ?_) rfl rfl ?_ ?_; rotate_left; (focus ((intro wS hSw; (try dsimp only at hSw); go_simp); try with_reducible rfl)); simp only [Act.put, List.setIfInBounds_toArray, List.set_cons_zero, List.set_cons_succ]))
            refine Plan.plan_last rfl (fun K hK => ?_)
            go_simp
            refine hK.out _ _ ?_
            clear hK K
            try simp only [Act.put, List.setIfInBounds_toArray, List.set_cons_zero, List.set_cons_succ]
            go_wp2_with fail
            go_roundw
            case rel => exact ⟨j + 1, by omega, by go_num, hAn, (hX.below (B := w.heap.size + 1) ((Below.refl _ _).setCell (p := ⟨w.heap.size + 1, q, none⟩) (Nat.le_refl _) _).drew (by omega)), (hBw.setCell (p := ⟨w.heap.size + 1, q, none⟩) (by simp) _).drew, by simpa using hz1, hL.far (p := ⟨w.heap.size + 1, q, none⟩) (by simp; omega) _, (World.cell?_setCell_other _ _ _ _ (fun e => by injection e with e1 _; omega)).trans c0⟩
            case measure => simp [intOf]; omega
          · have hje : j = (reach pl k).length := by omega
            subst hje
            rw [List.take_length, midV_all hpos.out] at hA
            go_wp2_with fail
            go_roundw
            case rel => exact ⟨k + 1, by omega, by go_num, hA, hX, hBw, hz1⟩
            case measure => simp [intOf]; omega
    · have hke : k = m := by omega
      subst hke
      rw [Hm.out] at hA
      go_wp2_with fail
      go_ret
      exact ⟨rfl, hA, hBw, hz⟩
end Go.Proofs.Ythoigjkelinjhaa
