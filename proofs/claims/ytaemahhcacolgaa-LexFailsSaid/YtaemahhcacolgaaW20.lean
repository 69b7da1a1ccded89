/- The walk of Write. -/
import Derived.Test.YtaemahhcacolgaaW19
import Derived.Test.YtaemahhcacolgaaShelf
namespace Go.Proofs.Ytaemahhcacolgaa
open Go.RowKit LX

theorem Try.infoStr : (Try.prog.info? 9).map (fun i => (i.zero, i.size, i.bytes)) = some (some (.string ⟨#[]⟩), 1, 16) := by kernel_rfl
/-- What is written of a token in memory. -/
def wrM (t : MTok) : Option (List UInt8) := if t.1 = 0 ∨ t.1 = 1 ∨ t.1 = 3 then some t.2.1 else if t.1 = 2 then some (34 :: (t.2.1 ++ [34])) else none
def partsM (A : List MTok) : List (List UInt8) := A.filterMap wrM
def writeM (A : List MTok) : List UInt8 := Lib.join (partsM A) [32]
def strsV (l : List (List UInt8)) : List Value := l.map fun x => .string (bs x)
theorem wrM_mt (t : Tok) : wrM (mt t) = wrO t := rfl
theorem writeM_mt (ts : List Tok) : writeM (ts.map mt) = writeL ts := by
  unfold writeM partsM writeL
  rw [List.filterMap_map]; rfl
theorem parts_snoc (A : List MTok) (k : Nat) (x : Int) (y : List UInt8) (z : Int) (h : A[k]? = some (x, y, z)) : partsM (A.take (k + 1)) = partsM (A.take k) ++ (wrM (x, y, z)).toList := by
  unfold partsM
  rw [List.take_add_one, h, List.filterMap_append]
  simp [List.filterMap]
  cases wrM (x, y, z) <;> rfl
theorem parts_len (A : List MTok) : (partsM A).length ≤ A.length := List.length_filterMap_le _ _
theorem cell_one_at {w : World} {b : Nat} (hb : w.heap.size = b) (e : Nat) (x : Value) : ∀ j u, [x][j]? = some u → (w.alloc (.cells #[x] e)).cell? ((⟨b, 0, none⟩ : Addr).add j) = some u := by
  subst hb; exact cell_one_new _ _ _
theorem quote_left (y : List UInt8) : (⟨#[34]⟩ : ByteArray) ++ bs y = bs (34 :: y) := by
  apply ByteArray.ext; rw [ByteArray.data_append]; simp [bs]
theorem quote_right (y : List UInt8) : bs (34 :: y) ++ (⟨#[34]⟩ : ByteArray) = bs (34 :: (y ++ [34])) := by
  apply ByteArray.ext; rw [ByteArray.data_append]; simp [bs]
theorem strs_app (l : List (List UInt8)) (x : List UInt8) : strsV (l ++ [x]) = strsV l ++ [.string (bs x)] := by simp [strsV]
theorem strs_len (l : List (List UInt8)) : (strsV l).length = l.length := by simp [strsV]
/-- The row of strings, one more. -/
theorem strs_more {w1 : World} {n₀ : Nat} {v : Value} {A : List MTok} {k : Nat} {x : Int} {y u : List UInt8} {z : Int} (ha : A[k]? = some (x, y, z)) (hw : wrM (x, y, z) = some u) {n : Nat} (hn : n = (partsM (A.take k)).length) (h : w1.ownsRow n₀ 9 1 v (n + 1) (strsV (partsM (A.take k)) ++ [.string (bs u)])) :
    w1.ownsRow n₀ 9 1 v (partsM (A.take (k + 1))).length (strsV (partsM (A.take (k + 1)))) := by
  subst hn
  have e := parts_snoc A k x y z ha
  rw [hw] at e
  have e : partsM (A.take (k + 1)) = partsM (A.take k) ++ [u] := e
  rw [e, strs_app, List.length_append]
  exact h
theorem strs_same {w1 : World} {n₀ : Nat} {v : Value} {A : List MTok} {k : Nat} {x : Int} {y : List UInt8} {z : Int} (ha : A[k]? = some (x, y, z)) (hw : wrM (x, y, z) = none) (h : w1.ownsRow n₀ 9 1 v (partsM (A.take k)).length (strsV (partsM (A.take k)))) :
    w1.ownsRow n₀ 9 1 v (partsM (A.take (k + 1))).length (strsV (partsM (A.take (k + 1)))) := by
  have e := parts_snoc A k x y z ha
  rw [hw] at e
  have e : partsM (A.take (k + 1)) = partsM (A.take k) := by rw [e]; simp
  rw [e]; exact h
def WriteIs (A : List MTok) (w : World) (e : Ending) (w' : World) : Prop := e = .returned (.string (bs (writeM A))) ∧ Below w.heap.size w w'
theorem join_rows (B : Nat) (v : Value) (A : List MTok) (w : World) (h : w.ownsRow B 9 1 v (partsM A).length (strsV (partsM A))) (hl : (writeM A).length ≤ 140737488355328) (hA : A.length ≤ 140737488355328) :
    Calls Try.prog 19 #[v, .string ⟨#[32]⟩] w (WriteIs A w) := by
  have hpl := parts_len A
  obtain ⟨h1, ⟨rfl, h0⟩ | ⟨g, cap, cur, rfl, h2, h3, h4, h5, h6, h7⟩⟩ := h
  · refine (Try.strings_Join_none none 0 ⟨#[32]⟩ w).mono ?_
    rintro e w' ⟨rfl, rfl⟩
    refine ⟨?_, Below.refl _ _⟩
    unfold writeM
    rw [List.eq_nil_of_length_eq_zero h0]
    rfl
  · have hj := Try.strings_Join g 0 cap ((partsM A).map bs) ⟨#[32]⟩ w (fun j x hx => ?_) ?_ (by simp; omega) (by simpa using h4) ?_
    · rw [List.length_map] at hj
      refine hj.mono ?_
      rintro e w' ⟨rfl, hb⟩
      refine ⟨?_, hb⟩
      congr 2
      show _ = bs (Lib.join (partsM A) [32])
      rw [List.map_map]
      have : (fun x : ByteArray => x.data.toList) ∘ bs = id := by funext l; exact bs_list l
      rw [this, List.map_id]; rfl
    · rw [Nat.zero_add, cell_of_row w g j cur 9 (0, 0) h3]
      obtain ⟨y, hy, rfl⟩ : ∃ y, (partsM A)[j]? = some y ∧ bs y = x := by simpa using hx
      have hj := (List.getElem?_eq_some_iff.1 hy).1
      have : (strsV (partsM A))[j]? = some (.string (bs y)) := by simp [strsV, hy]
      rw [← h7, List.getElem?_take_of_lt (by omega)] at this
      simpa using this
    · rcases Nat.lt_or_ge g w.heap.size with h | h
      · exact h
      · rw [Array.getElem?_eq_none h] at h3; cases h3
    · rw [List.map_map]
      have : (fun x : ByteArray => x.data.toList) ∘ bs = id := by funext l; exact bs_list l
      rw [this, List.map_id]; exact hl
set_option maxRecDepth 100000 in
set_option maxHeartbeats 4000000 in
theorem write_any (C : Option Addr) (cc : Nat) (A : List MTok) (w : World) {B : Nat} (hC : ToksAt w B C A) (hBw : B ≤ w.heap.size) (hl : A.length ≤ 1000000) (hT : ∀ t ∈ A, t.2.1.length ≤ 1000000) (hW : (writeM A).length ≤ 140737488355328) :
    Calls Try.prog 13 #[.slice C A.length cc] w (WriteIs A w) := by
  obtain ⟨i0, hi, hz0, hz1, hz2⟩ := info_parts Try.infoStr
  have HT := Lib.hid hT
  have HJ := Lib.hid fun v (wx : World) h => join_rows w.heap.size v A wx h hW (by omega)
  clear hT hW
  go_enter Try.func13, Try.ntmps13
  go_wp2_with fail
  go_loopw [3, 8] (fun v i wr => ∃ k : Nat, k ≤ A.length ∧ i = .int .i64 k ∧ wr.ownsRow w.heap.size 9 1 v (partsM (A.take k)).length (strsV (partsM (A.take k))) ∧ Below w.heap.size w wr) (fun _ i _ => A.length - (intOf i).toNat)
  case atStart => exact ⟨0, Nat.zero_le _, rfl, World.ownsRow_nil _ _ _ _, Below.refl _ _⟩
  case round =>
    obtain ⟨k, hk, rfl, hrow, hB⟩ := hrel
    have hBs := hB.size
    have hpl := parts_len (A.take k)
    rw [List.length_take] at hpl
    have hpl : (partsM (A.take k)).length ≤ k := by omega
    by_cases hlt : k < A.length
    · obtain ⟨b, off, x, y, z, rfl, hb, ha, c0, c1, c2⟩ := (hC.below (hB.mono hBw)).at_ hlt
      have hy := HT.out _ (List.mem_of_getElem? ha.out)
      have hy : y.length ≤ 1000000 := hy
      obtain ⟨n, hn⟩ : ∃ n, n = (partsM (A.take k)).length := ⟨_, rfl⟩
      rcases (show x = 0 ∨ x = 1 ∨ x = 3 ∨ x = 2 ∨ (x ≠ 0 ∧ x ≠ 1 ∧ x ≠ 2 ∧ x ≠ 3) by omega) with rfl | rfl | rfl | rfl | ⟨n0, n1, n2, n3⟩
      · skip
        have Hm := Lib.hid fun (w1 : World) v h => strs_more (w1 := w1) (n₀ := w.heap.size) (v := v) (u := y) ha.out rfl hn h
        clear ha
        rw [← hn] at hrow
        rw [← hn] at hpl
        have Hn := Lib.hid hn
        clear hn
        go_wp2_with (first | (at_builtin; refine wpList_append_own _ rfl _ _ 34 rfl w.heap.size 9 i0 (.string ⟨#[]⟩) 1 16 Try.underlying34 hi hz0 hz1 hz2 rfl (by decide) _ n _ rfl ((hrow.alloc _).alloc _) ⟨wr.heap.size + 1, 0, none⟩ 1 1 [.string (bs y)] rfl rfl (cell_one_at (by simp) _ _) (by simp [Value.oneCell']) (by unfold maxLen; omega) (by omega) (by simp; omega) ?_; intro v' w1 hown' hgrow _; obtain ⟨g', cap', rfl⟩ := ownsRow_succ hown') | fail)
        have hb2 := below_app (hrow.alloc _) (by simp; omega) hgrow
        have hB2 : Below w.heap.size w w1 := hB.trans (((Below.refl _ _).alloc hBs _).trans hb2)
        have hr2 := Hm.out _ _ hown'
        clear hown' hgrow hrow hb2 hB Hm Hn
        go_roundw
        case rel => exact ⟨k + 1, by omega, by go_num, hr2, hB2⟩
        case measure => simp [intOf]; omega
      · skip
        have Hm := Lib.hid fun (w1 : World) v h => strs_more (w1 := w1) (n₀ := w.heap.size) (v := v) (u := y) ha.out rfl hn h
        clear ha
        rw [← hn] at hrow
        rw [← hn] at hpl
        have Hn := Lib.hid hn
        clear hn
        go_wp2_with (first | (at_builtin; refine wpList_append_own _ rfl _ _ 34 rfl w.heap.size 9 i0 (.string ⟨#[]⟩) 1 16 Try.underlying34 hi hz0 hz1 hz2 rfl (by decide) _ n _ rfl ((hrow.alloc _).alloc _) ⟨wr.heap.size + 1, 0, none⟩ 1 1 [.string (bs y)] rfl rfl (cell_one_at (by simp) _ _) (by simp [Value.oneCell']) (by unfold maxLen; omega) (by omega) (by simp; omega) ?_; intro v' w1 hown' hgrow _; obtain ⟨g', cap', rfl⟩ := ownsRow_succ hown') | fail)
        have hb2 := below_app (hrow.alloc _) (by simp; omega) hgrow
        have hB2 : Below w.heap.size w w1 := hB.trans (((Below.refl _ _).alloc hBs _).trans hb2)
        have hr2 := Hm.out _ _ hown'
        clear hown' hgrow hrow hb2 hB Hm Hn
        go_roundw
        case rel => exact ⟨k + 1, by omega, by go_num, hr2, hB2⟩
        case measure => simp [intOf]; omega
      · skip
        have Hm := Lib.hid fun (w1 : World) v h => strs_more (w1 := w1) (n₀ := w.heap.size) (v := v) (u := y) ha.out rfl hn h
        clear ha
        rw [← hn] at hrow
        rw [← hn] at hpl
        have Hn := Lib.hid hn
        clear hn
        go_wp2_with (first | (at_builtin; refine wpList_append_own _ rfl _ _ 34 rfl w.heap.size 9 i0 (.string ⟨#[]⟩) 1 16 Try.underlying34 hi hz0 hz1 hz2 rfl (by decide) _ n _ rfl ((hrow.alloc _).alloc _) ⟨wr.heap.size + 1, 0, none⟩ 1 1 [.string (bs y)] rfl rfl (cell_one_at (by simp) _ _) (by simp [Value.oneCell']) (by unfold maxLen; omega) (by omega) (by simp; omega) ?_; intro v' w1 hown' hgrow _; obtain ⟨g', cap', rfl⟩ := ownsRow_succ hown') | fail)
        have hb2 := below_app (hrow.alloc _) (by simp; omega) hgrow
        have hB2 : Below w.heap.size w w1 := hB.trans (((Below.refl _ _).alloc hBs _).trans hb2)
        have hr2 := Hm.out _ _ hown'
        clear hown' hgrow hrow hb2 hB Hm Hn
        go_roundw
        case rel => exact ⟨k + 1, by omega, by go_num, hr2, hB2⟩
        case measure => simp [intOf]; omega
      · skip
        have Hm := Lib.hid fun (w1 : World) v h => strs_more (w1 := w1) (n₀ := w.heap.size) (v := v) (u := 34 :: (y ++ [34])) ha.out rfl hn h
        clear ha
        rw [← hn] at hrow
        rw [← hn] at hpl
        have Hn := Lib.hid hn
        clear hn
        have s1 : (bs y).size = y.length := rfl
        have s2 : (bs (34 :: y)).size = y.length + 1 := rfl
        have q1 := quote_left y
        have q2 := quote_right y
        go_wp2_with (first | (at_builtin; refine wpList_append_own _ rfl _ _ 34 rfl w.heap.size 9 i0 (.string ⟨#[]⟩) 1 16 Try.underlying34 hi hz0 hz1 hz2 rfl (by decide) _ n _ rfl ((hrow.alloc _).alloc _) ⟨wr.heap.size + 1, 0, none⟩ 1 1 [.string (bs (34 :: (y ++ [34])))] rfl rfl (cell_one_at (by simp) _ _) (by simp [Value.oneCell']) (by unfold maxLen; omega) (by omega) (by simp; omega) ?_; intro v' w1 hown' hgrow _; obtain ⟨g', cap', rfl⟩ := ownsRow_succ hown') | fail)
        clear q1 q2 s1 s2
        have hb2 := below_app (hrow.alloc _) (by simp; omega) hgrow
        have hB2 : Below w.heap.size w w1 := hB.trans (((Below.refl _ _).alloc hBs _).trans hb2)
        have hr2 := Hm.out _ _ hown'
        clear hown' hgrow hrow hb2 hB Hm Hn
        go_roundw
        case rel => exact ⟨k + 1, by omega, by go_num, hr2, hB2⟩
        case measure => simp [intOf]; omega
      · have hr2 := strs_same (w1 := wr) (n₀ := w.heap.size) ha.out (by unfold wrM; rw [if_neg (by simp; omega), if_neg n2]) hrow
        have e0 : (x == 0) = false := by simpa using n0
        have e1 : (x == 1) = false := by simpa using n1
        have e2 : (x == 2) = false := by simpa using n2
        have e3 : (x == 3) = false := by simpa using n3
        clear hrow n0 n1 n2 n3 hn
        go_wp2_with fail
        go_roundw
        case rel => exact ⟨k + 1, by omega, by go_num, hr2.alloc _, hB.alloc hBs _⟩
        case measure => simp [intOf]; omega
    · obtain rfl : k = A.length := by omega
      rw [List.take_length] at hrow
      go_wp2_with (first | (go_at_call 19; ((with_reducible refine (HJ.out _ _ hrow).mono ?_); rintro e1 w1 ⟨rfl, hb⟩)) | fail)
      go_ret
      exact ⟨rfl, hB.trans (hb.mono hBs)⟩
end Go.Proofs.Ytaemahhcacolgaa
