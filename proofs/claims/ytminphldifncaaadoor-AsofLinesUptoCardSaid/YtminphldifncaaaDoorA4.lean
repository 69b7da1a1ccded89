/- Joined of: A4. -/
import Derived.Deep.Cut
import Derived.Lib.ItoaLen
import Derived.Test.YtminphldifncaaaDoorG04
import Derived.Test.YtminphldifncaaaDoorG02
import Derived.Test.YtminphldifncaaaDoorA1
/- Walks of the parts of a statement: signed, line, dayText, placeName, reason. -/
set_option linter.unusedSimpArgs false
set_option linter.unusedVariables false
namespace Go.Proofs.YtminphldifncaaaDoor
open Go.RowKit
attribute [local go_sem] alloc_drewN setCell_drewN shape_drewN

def sgnL (n : Int) : Bts := if n < 0 then Lib.itoa n else 43 :: Lib.itoa n
def lineL (l : List Bts) : Bts := Lib.join l [32] ++ [10]
open Classical in
noncomputable def dateOf (k : Int) : Int × Int × Int := if h : ∃ p : Int × Int × Int, DM.vld p.1 p.2.1 p.2.2 ∧ DM.num p.1 p.2.1 p.2.2 = k then Classical.choose h else (0, 0, 0)
theorem dateOf_eq {y m d k : Int} (h : DM.vld y m d) (e : DM.num y m d = k) : dateOf k = (y, m, d) := by
  have hx : ∃ p : Int × Int × Int, DM.vld p.1 p.2.1 p.2.2 ∧ DM.num p.1 p.2.1 p.2.2 = k := ⟨(y, m, d), h, e⟩
  unfold dateOf
  rw [dif_pos hx]
  obtain ⟨h1, h2⟩ := Classical.choose_spec hx
  obtain ⟨a, b, c⟩ := DM.num_inj h1 h (h2.trans e.symm)
  exact Prod.ext a (Prod.ext b c)
/-- The text of an hour. -/
noncomputable def textR (n : Int) : Bts := if 0 ≤ n ∧ n ≤ 16777216 then textL (dateOf (n / 24)).1 (dateOf (n / 24)).2.1 (dateOf (n / 24)).2.2 (n % 24) else []
theorem textR_eq {n y m d : Int} (h0 : 0 ≤ n ∧ n ≤ 16777216) (h : DM.vld y m d) (e : DM.num y m d = n / 24) : textR n = textL y m d (n % 24) := by
  unfold textR; rw [if_pos h0, dateOf_eq h e]
theorem textR_len (n : Int) : (textR n).length = 14 ∨ (textR n).length = 0 := by
  unfold textR
  split
  · left; simp [textL, dig2]
  · right; rfl
theorem text_any (n : Int) (w : World) (hT : Tabs w) : Calls Tryd.prog 27 #[.int .i64 n] w fun e w' => e = .returned (.string (bs (textR n))) ∧ Below w.heap.size w w' := by
  by_cases h : 0 ≤ n ∧ n ≤ 16777216
  · refine (text_yes n w h.1 h.2 hT).mono ?_
    rintro e w' ⟨y, m, d, rfl, h1, h2, -, -, hb⟩
    exact ⟨by rw [textR_eq h h1 h2]; rfl, hb⟩
  · refine (text_no n w (by omega)).mono ?_
    rintro e w' ⟨rfl, hb⟩
    exact ⟨by unfold textR; rw [if_neg h]; rfl, hb⟩
theorem rtext_any (n : Int) (w : World) (hT : Tabs w) : Calls Tryd.prog 47 #[.int .i64 n] w fun e w' => e = .returned (.string (bs (textR n))) ∧ Below w.heap.size w w' := by
  by_cases h : 0 ≤ n ∧ n ≤ 16777216
  · refine (rtext_yes n w h.1 h.2 hT).mono ?_
    rintro e w' ⟨y, m, d, rfl, h1, h2, -, -, hb⟩
    exact ⟨by rw [textR_eq h h1 h2]; rfl, hb⟩
  · refine (rtext_no n w (by omega)).mono ?_
    rintro e w' ⟨rfl, hb⟩
    exact ⟨by unfold textR; rw [if_neg h]; rfl, hb⟩
theorem signed_any (n : Int) (w : World) (hT : Tabs w) (h0 : -9223372036854775808 ≤ n) (h1 : n ≤ 9223372036854775807) : Calls Tryd.prog 40 #[.int .i64 n] w fun e w' => e = .returned (.string (bs (sgnL n))) ∧ Below w.heap.size w w' := by
  have K := Lib.hid (Tryd.strconv_Itoa n h0 h1 w hT.pow)
  have hl := Lib.itoa_length_le n h0 h1
  have hS : Hid (sgnL n = if n < 0 then Lib.itoa n else 43 :: Lib.itoa n) := rfl
  obtain ⟨L, hL⟩ : ∃ L, Lib.itoa n = L := ⟨_, rfl⟩
  rw [hL] at K hl hS
  clear hL
  have hz : (bs L).size = L.length := bs_size L
  have hs : (⟨#[43]⟩ : ByteArray) ++ bs L = bs (43 :: L) := by apply ByteArray.ext; simp [bs]
  rw [show ByteArray.mk L.toArray = bs L from rfl] at K
  by_cases hn : n < 0
  · rw [if_pos hn] at hS
    go_enter Tryd.func40, Tryd.ntmps40
    go_wp2_with (first | (go_at_call 62; refine K.out.mono ?_; rintro e1 w1 ⟨rfl, kk, os, rfl⟩) | fail)
    go_ret
    exact ⟨by rw [hS.out]; rfl, below_grow _ _ _⟩
  · rw [if_neg hn] at hS
    have hg : ¬ (9223372036854775807 : Int) < 1 + (L.length : Int) := by omega
    go_enter Tryd.func40, Tryd.ntmps40
    go_wp2_with (first | (go_at_call 62; refine K.out.mono ?_; rintro e1 w1 ⟨rfl, kk, os, rfl⟩) | fail)
    go_ret
    exact ⟨by rw [hS.out]; rfl, below_grow _ _ _⟩
theorem line_any (bk o c : Nat) (xs : List Bts) (w : World) (hcells : ∀ (j : Nat) x, xs[j]? = some x → w.cell? ⟨bk, o + j, none⟩ = some (.string (bs x))) (hbk : bk < w.heap.size) (hN : xs.length ≤ 1000) (hcap : xs.length ≤ c) (hlen : (Lib.join xs [32]).length ≤ 100000000) :
    Calls Tryd.prog 38 #[.slice (some ⟨bk, o, none⟩) xs.length c] w fun e w' => e = .returned (.string (bs (lineL xs))) ∧ Below w.heap.size w w' := by
  have hm : (xs.map bs).map (·.data.toList) = xs := by
    rw [List.map_map]
    have h : ((fun s : ByteArray => s.data.toList) ∘ bs) = id := funext fun x => bs_list x
    rw [h, List.map_id]
  have K := Tryd.strings_Join bk o c (xs.map bs) ⟨#[32]⟩ w (fun j x hx => by
    rw [List.getElem?_map] at hx
    cases hq : xs[j]? with
    | none => rw [hq] at hx; cases hx
    | some y => rw [hq] at hx; injection hx with hx; subst hx; exact hcells j y hq) hbk (by simp; omega) (by simpa using hcap) (by rw [hm]; exact Nat.le_trans hlen (by omega))
  rw [hm, List.length_map] at K
  have hS : Hid (lineL xs = Lib.join xs [32] ++ [10]) := rfl
  rw [show (ByteArray.mk #[32]).data.toList = [32] from rfl] at K
  obtain ⟨L, hL⟩ : ∃ L, Lib.join xs [32] = L := ⟨_, rfl⟩
  rw [hL] at K hS hlen
  clear hL hm hcells
  rw [show ByteArray.mk L.toArray = bs L from rfl] at K
  replace K := Lib.hid K
  have hz : (bs L).size = L.length := bs_size L
  have hs : bs L ++ (⟨#[10]⟩ : ByteArray) = bs (L ++ [10]) := by apply ByteArray.ext; simp [bs]
  have hg : ¬ (9223372036854775807 : Int) < (L.length : Int) + 1 := by omega
  go_enter Tryd.func38, Tryd.ntmps38
  go_wp2_with (first | (go_at_call 61; refine K.out.mono ?_; rintro e1 w1 ⟨rfl, hb1⟩) | fail)
  go_ret
  exact ⟨by rw [hS.out]; rfl, hb1⟩
noncomputable def dayL (d : Int) : Bts := (textR (24 * d)).take 10
set_option maxHeartbeats 1000000 in
theorem day_any (d : Int) (w : World) (hT : Tabs w) (h0 : 0 ≤ d) (h1 : d ≤ 699050) : Calls Tryd.prog 39 #[.int .i64 d] w fun e w' => e = .returned (.string (bs (dayL d))) ∧ Below w.heap.size w w' := by
  have K := Lib.hid (text_any (24 * d) w hT)
  have hS : Hid (dayL d = (textR (24 * d)).take 10) := rfl
  have hl := textR_len (24 * d)
  have hw : IntKind.i64.wrap (24 * d) = 24 * d := by rw [IntKind.wrap_i64]; omega
  obtain ⟨L, hL⟩ : ∃ L, textR (24 * d) = L := ⟨_, rfl⟩
  rw [hL] at K hS hl
  clear hL
  have hz : (bs L).size = L.length := bs_size L
  have hx : (bs L).extract 0 10 = bs (L.take 10) := by
    apply ByteArray.ext; simp [bs]
  have hx0 : (bs L).extract 0 L.length = bs L := by
    apply ByteArray.ext; simp [bs]
  rcases hl with hl | hl
  · rw [hl] at hz
    go_enter Tryd.func39, Tryd.ntmps39
    go_wp2_with (first | (go_at_call 27; refine K.out.mono ?_; rintro e1 w1 ⟨rfl, hb1⟩) | fail)
    go_ret
    exact ⟨by rw [hS.out, ← hx]; rfl, hb1⟩
  · have hL0 : L = [] := List.eq_nil_of_length_eq_zero hl
    subst hL0
    have hb0 : bs [] = ⟨#[]⟩ := rfl
    rw [hb0] at K hz
    go_enter Tryd.func39, Tryd.ntmps39
    go_wp2_with (first | (go_at_call 27; refine K.out.mono ?_; rintro e1 w1 ⟨rfl, hb1⟩) | fail)
    go_ret
    exact ⟨by rw [hS.out]; rfl, hb1⟩
def whyL (y : Int) : Bts := if y = 0 then [103, 114, 97, 110, 116] else if y = 1 then [99, 111, 114, 114, 101, 99, 116] else if y = 2 then [115, 116, 111, 114, 101] else if y = 3 then [100, 101, 97, 108] else [63]
theorem reason_any (y : Int) (w : World) : Calls Tryd.prog 42 #[.int .i64 y] w fun e w' => e = .returned (.string (bs (whyL y))) ∧ w = w' := by
  unfold whyL
  by_cases h0 : y = 0
  · subst h0
    go_enter Tryd.func42, Tryd.ntmps42
    go_wp2_with fail
    go_ret
    exact ⟨rfl, rfl⟩
  by_cases h1 : y = 1
  · subst h1
    go_enter Tryd.func42, Tryd.ntmps42
    go_wp2_with fail
    go_ret
    exact ⟨rfl, rfl⟩
  by_cases h2 : y = 2
  · subst h2
    go_enter Tryd.func42, Tryd.ntmps42
    go_wp2_with fail
    go_ret
    exact ⟨rfl, rfl⟩
  by_cases h3 : y = 3
  · subst h3
    go_enter Tryd.func42, Tryd.ntmps42
    go_wp2_with fail
    go_ret
    exact ⟨rfl, rfl⟩
  rw [if_neg h0, if_neg h1, if_neg h2, if_neg h3]
  have g0 : (y == 0) = false := by simpa using h0
  have g1 : (y == 1) = false := by simpa using h1
  have g2 : (y == 2) = false := by simpa using h2
  have g3 : (y == 3) = false := by simpa using h3
  go_enter Tryd.func42, Tryd.ntmps42
  go_wp2_with fail
  go_ret
  exact ⟨rfl, rfl⟩
def placeL (pl : List Bts) (i : Int) : Bts := if i < 0 ∨ (pl.length : Int) ≤ i then [63] else pl.getD i.toNat []
set_option maxHeartbeats 1000000 in
theorem place_any (X : Bas) (pl : List Bts) (i : Int) (w : World) {B : Nat} (hN : NamesAt w B X.P pl) (hB : B ≤ w.heap.size) (hl : pl.length ≤ 9223372036854775807) :
    Calls Tryd.prog 41 #[.agg #[.string X.nm, .slice X.a1 X.l1 X.c1, .int .i64 X.cl, .slice X.P pl.length X.cP, .slice X.a4 X.l4 X.c4, .slice X.a5 X.l5 X.c5, .slice X.a6 X.l6 X.c6, .slice X.a7 X.l7 X.c7, .slice X.a8 X.l8 X.c8, .slice X.a9 X.l9 X.c9, .int .i64 X.er], .int .i64 i] w fun e w' => e = .returned (.string (bs (placeL pl i))) ∧ Below w.heap.size w w' := by
  have hS : Hid (placeL pl i = if i < 0 ∨ (pl.length : Int) ≤ i then [63] else pl.getD i.toNat []) := rfl
  obtain ⟨np, hnp⟩ : ∃ n, pl.length = n := ⟨_, rfl⟩
  by_cases h0 : i < 0
  · rw [if_pos (.inl h0)] at hS
    rw [hnp]
    go_enter Tryd.func41, Tryd.ntmps41
    go_wp2_with fail
    go_ret
    exact ⟨by rw [hS.out]; rfl, below_new _ _⟩
  by_cases h1 : (np : Int) ≤ i
  · rw [hnp, if_pos (.inr h1)] at hS
    rw [hnp]
    go_enter Tryd.func41, Tryd.ntmps41
    go_wp2_with fail
    go_ret
    exact ⟨by rw [hS.out]; rfl, below_new _ _⟩
  · rw [hnp, if_neg (by omega)] at hS
    obtain ⟨k, rfl⟩ : ∃ k : Nat, i = k := ⟨i.toNat, by omega⟩
    obtain ⟨x, hx⟩ : ∃ x, pl[k]? = some x := ⟨_, List.getElem?_eq_getElem (by omega)⟩
    rw [Int.toNat_natCast, List.getD_eq_getElem?_getD, hx] at hS
    obtain ⟨b, off, e, hb, hc⟩ := hN.at_ hx
    have hbw : b < w.heap.size := by omega
    rw [hnp, e]
    go_enter Tryd.func41, Tryd.ntmps41
    go_wp2_with fail
    go_ret
    exact ⟨by rw [hS.out]; rfl, below_new _ _⟩
end Go.Proofs.YtminphldifncaaaDoor

