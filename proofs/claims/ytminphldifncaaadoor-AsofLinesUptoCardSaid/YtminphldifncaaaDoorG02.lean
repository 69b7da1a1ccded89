/- Joined of: DT1 DT2. -/
import Derived.Lib.SmallJoins
import Derived.Deep.RegionHeld3
import Derived.Test.YtminphldifncaaaDoorG01
import Derived.Test.YtminphldifncaaaDoorShelf
/- Walks of the reference's two and of date.padded. -/
set_option linter.unusedSimpArgs false
set_option linter.unusedVariables false
namespace Go.Proofs.YtminphldifncaaaDoor
open Go.RowKit

/-- Two digits. -/
def dig2 (n : Int) : List UInt8 := [UInt8.ofNat (48 + (n / 10).toNat), UInt8.ofNat (48 + (n % 10).toNat)]
def strV (l : List UInt8) : Value := .string ⟨l.toArray⟩

/-- The tables that the functions read. -/
structure Tabs (w : World) : Prop where
  mon : Months w
  pow : Lib.TabIs Tryd.prog w powName .u64 Lib.pow10Tab
  size : 3 ≤ w.heap.size
theorem Tabs.below {w w' : World} (h : Tabs w) {B : Nat} (hB : 3 ≤ B) (hb : Below B w w') (hs : w.heap.size ≤ w'.heap.size) : Tabs w' :=
  ⟨h.mon.below (by omega) hb, var?_below (g := 2) hb (show Tryd.prog.globalNamed powName = some 2 by kernel_rfl) (by omega) h.pow, Nat.le_trans h.size hs⟩
theorem Tabs.alloc {w : World} (h : Tabs w) (o : Obj) : Tabs (w.alloc o) :=
  h.below h.size ((Below.refl _ _).alloc (Nat.le_refl _) o) (by simp)
theorem Tabs.drewN {w : World} (h : Tabs w) (n : Nat) : Tabs (w.drewN n) :=
  h.below h.size (below_drewN (Below.refl _ _) n) (Nat.le_refl _)

theorem below_grow (w : World) (n : Nat) (os : Array Obj) : Below w.heap.size w (Go.Sort.grow (w.drewN n) os) :=
  ⟨rfl, rfl, rfl, by simp [Go.Sort.grow], fun k hk => by
    have := Go.Sort.heap_grow_old (w.drewN n) os (k := k) hk
    exact this⟩

set_option maxHeartbeats 400000 in
theorem two_any (n : Int) (w : World) (h0 : 0 ≤ n) (h1 : n ≤ 99) :
    Calls Tryd.prog 65 #[.int .i64 n] w fun e w' => e = .returned (strV (dig2 n)) ∧ Below w.heap.size w w' := by
  have hk := run_convert_bytes_arg (P := Tryd.prog) (w.alloc (.cells #[.int .u8 (48 + n / 10), .int .u8 (48 + n % 10)] 5)) 70 5 Tryd.underlying70 Tryd.underlying5 w.heap.size 0 2 2 [48 + n / 10, 48 + n % 10] rfl (by
    intro i hi
    rw [World.cell?_alloc_at _ _ _ _ rfl]
    match i, hi with
    | 0, _ => rfl
    | 1, _ => rfl) 9 Tryd.underlying9
  have he : Hid (Value.string (strOfNums [48 + n / 10, 48 + n % 10]) = strV (dig2 n)) := by
    have e1 : (48 + n / 10).toNat = 48 + (n / 10).toNat := by omega
    have e2 : (48 + n % 10).toNat = 48 + (n % 10).toNat := by omega
    have : strOfNums [48 + n / 10, 48 + n % 10] = ⟨(dig2 n).toArray⟩ := by
      simp only [strOfNums, dig2, List.map_cons, List.map_nil, e1, e2]
    show Value.string _ = Value.string _
    rw [this]
  generalize strOfNums [48 + n / 10, 48 + n % 10] = st at *
  go_enter Tryd.func65, Tryd.ntmps65
  go_wp2
  go_ret
  refine ⟨?_, (Below.refl _ _).alloc (Nat.le_refl _) _⟩
  rw [← he.out]
  rfl

theorem decD (i : Nat) (h : i < 100) : (if i < 10 then [48] else []) ++ Lib.decDigits i = dig2 i := by
  by_cases h1 : i < 10
  · rw [if_pos h1, Lib.decDigits_one h1]
    have e1 : ((i : Int) / 10).toNat = 0 := by omega
    have e2 : ((i : Int) % 10).toNat = i := by omega
    simp [dig2, e1, e2]
  · rw [if_neg h1, Lib.decDigits_two h1 h]
    have e1 : ((i : Int) / 10).toNat = i / 10 := by omega
    have e2 : ((i : Int) % 10).toNat = i % 10 := by omega
    simp [dig2, e1, e2]
theorem itoa4 (i : Int) (h : 1000 ≤ i) (h2 : i ≤ 9999) : Lib.itoa i = dig2 (i / 100) ++ dig2 (i % 100) := by
  have a : ¬ i < 0 := by omega
  rw [Lib.itoa, if_neg a, Lib.decDigits, dif_neg (by omega), Lib.decDigits, dif_neg (by omega), Lib.decDigits_two (by omega) (by omega)]
  simp only [dig2, List.cons_append, List.nil_append, List.append_assoc]
  have e1 : i.toNat / 10 / 10 = (i / 100).toNat := by omega
  have e2 : (i / 100 / 10).toNat = (i / 100).toNat / 10 := by omega
  have e3 : (i / 100 % 10).toNat = (i / 100).toNat % 10 := by omega
  have e4 : (i % 100 / 10).toNat = i.toNat / 10 % 10 := by omega
  have e5 : (i % 100 % 10).toNat = i.toNat % 10 := by omega
  rw [e1, e2, e3, e4, e5]

set_option maxHeartbeats 400000 in
theorem padded2 (n : Int) (w : World) (h0 : 0 ≤ n) (h1 : n ≤ 99) :
    Calls Tryd.prog 52 #[.int .i64 n, .int .i64 2] w fun e w' => e = .returned (strV (dig2 n)) ∧ Below w.heap.size w w' := by
  obtain ⟨i, rfl⟩ := Int.eq_ofNat_of_zero_le h0
  have hi : i < 100 := by omega
  have D := decD i hi
  by_cases h10 : i < 10
  · rw [if_pos h10] at D
    have D1 := Lib.decDigits_one h10
    obtain ⟨c, hc⟩ : ∃ c, c = UInt8.ofNat (48 + i) := ⟨_, rfl⟩
    rw [← hc] at D1
    rw [D1] at D
    have D2 := Lib.hid D
    have D3 := Lib.hid D1
    clear D D1 hc h0 h1
    go_enter Tryd.func52, Tryd.ntmps52
    go_wp2_with (go_at_call 62; refine (Tryd.strconv_Itoa_small i hi _).mono ?_; rintro e w' ⟨rfl, hq⟩; obtain rfl : w = w' := hq.symm; rw [D3.out])
    refine wp_loop_rounds 2 ?_
    rw [rounds_succ]
    go_wp2
    rw [rounds_succ]
    go_wp2
    go_ret
    exact ⟨by rw [← D2.out]; rfl, Below.refl _ _⟩
  · rw [if_neg h10] at D
    have D1 := Lib.decDigits_two h10 hi
    obtain ⟨c, hc⟩ : ∃ c, c = UInt8.ofNat (48 + i / 10) := ⟨_, rfl⟩
    obtain ⟨c2, hc2⟩ : ∃ c, c = UInt8.ofNat (48 + i % 10) := ⟨_, rfl⟩
    rw [← hc, ← hc2] at D1
    rw [D1] at D
    have D2 := Lib.hid D
    have D3 := Lib.hid D1
    clear D D1 hc hc2 h0 h1
    go_enter Tryd.func52, Tryd.ntmps52
    go_wp2_with (go_at_call 62; refine (Tryd.strconv_Itoa_small i hi _).mono ?_; rintro e w' ⟨rfl, hq⟩; obtain rfl : w = w' := hq.symm; rw [D3.out])
    refine wp_loop_rounds 1 ?_
    rw [rounds_succ]
    go_wp2
    go_ret
    exact ⟨by rw [← D2.out]; rfl, Below.refl _ _⟩

theorem dig4_form (n : Int) : ∃ a b c d : UInt8, dig2 (n / 100) ++ dig2 (n % 100) = [a, b, c, d] := ⟨_, _, _, _, rfl⟩

set_option maxHeartbeats 400000 in
theorem padded4 (n : Int) (w : World) (hT : Tabs w) (h0 : 1000 ≤ n) (h1 : n ≤ 9999) :
    Calls Tryd.prog 52 #[.int .i64 n, .int .i64 4] w fun e w' => e = .returned (strV (dig2 (n / 100) ++ dig2 (n % 100))) ∧ Below w.heap.size w w' := by
  have D := itoa4 n h0 h1
  obtain ⟨a, b, c, d, hd⟩ := dig4_form n
  rw [hd] at D
  have D3 := Lib.hid D
  have D2 := Lib.hid hd
  clear D hd
  go_enter Tryd.func52, Tryd.ntmps52
  go_wp2_with (go_at_call 62; refine (Tryd.strconv_Itoa n (by omega) (by omega) _ hT.pow).mono ?_; rintro e w1 ⟨rfl, hq⟩; rw [D3.out])
  have hb : Below w.heap.size w w1 := by
    obtain ⟨k, os, rfl⟩ := hq
    exact below_grow _ _ _
  clear hq
  refine wp_loop_rounds 1 ?_
  rw [rounds_succ]
  go_wp2
  go_ret
  exact ⟨by rw [D2.out]; rfl, hb⟩
end Go.Proofs.YtminphldifncaaaDoor

/- Walks of both Texts. -/
namespace Go.Proofs.YtminphldifncaaaDoor
open Go.RowKit

def padL (n k : Int) : List UInt8 := if k = 2 then dig2 n else dig2 (n / 100) ++ dig2 (n % 100)
theorem padded_any (n k : Int) (w : World) (hT : Tabs w) (h : (k = 2 ∧ 0 ≤ n ∧ n ≤ 99) ∨ (k = 4 ∧ 1000 ≤ n ∧ n ≤ 9999)) :
    Calls Tryd.prog 52 #[.int .i64 n, .int .i64 k] w fun e w' => e = .returned (.string ⟨(padL n k).toArray⟩) ∧ Below w.heap.size w w' := by
  rcases h with ⟨rfl, h0, h1⟩ | ⟨rfl, h0, h1⟩
  · exact padded2 n w h0 h1
  · exact padded4 n w hT h0 h1

/-- The text of an hour. -/
def textL (y m d h : Int) : List UInt8 := dig2 (y / 100) ++ dig2 (y % 100) ++ [45] ++ dig2 m ++ [45] ++ dig2 d ++ [32] ++ dig2 h ++ [104]
def KeepT (w0 w' : World) : Prop := Below w0.heap.size w0 w' ∧ Tabs w'
theorem KeepT.call {w0 w1 w2 : World} (h : KeepT w0 w1) (hb : Below w1.heap.size w1 w2) : KeepT w0 w2 :=
  ⟨h.1.trans (hb.mono h.1.size), h.2.below h.2.size hb hb.size⟩

theorem keep_call {w0 w' w2 : World} {B : Nat} {a b c d : Value} (h0 : w'.cell? ⟨B, 0, none⟩ = some a) (h1 : w'.cell? ⟨B, 1, none⟩ = some b) (h2 : w'.cell? ⟨B, 2, none⟩ = some c)
    (h3 : w'.cell? ⟨B, 3, none⟩ = some d) (hk : Below w0.heap.size w0 w') (ht : Tabs w') (hb : Below w'.heap.size w' w2) :
    w2.cell? ⟨B, 0, none⟩ = some a ∧ w2.cell? ⟨B, 1, none⟩ = some b ∧ w2.cell? ⟨B, 2, none⟩ = some c ∧ w2.cell? ⟨B, 3, none⟩ = some d ∧ Below w0.heap.size w0 w2 ∧ Tabs w2 :=
  ⟨cell_later hb h0, cell_later hb h1, cell_later hb h2, cell_later hb h3, KeepT.call ⟨hk, ht⟩ hb⟩

/-- What Text gives for an hour that has a date. -/
def TextYes (n : Int) (w : World) (e : Ending) (w' : World) : Prop := ∃ y m d : Int,
  e = .returned (strV (textL y m d (n % 24))) ∧ DM.vld y m d ∧ DM.num y m d = n / 24 ∧ 2000 ≤ y ∧ y ≤ 3914 ∧ Below w.heap.size w w'
def TextNo (w : World) (e : Ending) (w' : World) : Prop := e = .returned (.string ⟨#[]⟩) ∧ Below w.heap.size w w'

set_option maxHeartbeats 400000 in
theorem text_no (n : Int) (w : World) (h : n < 0 ∨ 16777216 < n) : Calls Tryd.prog 27 #[.int .i64 n] w (TextNo w) := by
  go_enter Tryd.func27, Tryd.ntmps27
  go_wp2_with (go_at_call 51; refine (of_no _ _ h).mono ?_; rintro e w1 ⟨rfl, hb⟩)
  go_ret
  exact ⟨rfl, hb.alloc hb.size _⟩

set_option maxHeartbeats 2000000 in
theorem text_yes (n : Int) (w : World) (h1 : 0 ≤ n) (h2 : n ≤ 16777216) (hT : Tabs w) : Calls Tryd.prog 27 #[.int .i64 n] w (TextYes n w) := by
  go_enter Tryd.func27, Tryd.ntmps27
  go_wp2_with (go_at_call 51; refine (of_yes _ _ h1 h2 hT.mon).mono ?_; rintro e w1 ⟨y, m, d, rfl, hv, hn, hy1, hy2, hb⟩)
  have hT1 : Tabs w1 := hT.below hT.size hb hb.size
  have hT2 := hT1.alloc (.cells #[.int .i64 y, .int .i64 m, .int .i64 d, .int .i64 (n % 24)] 87)
  have hk : KeepT w (w1.alloc (.cells #[.int .i64 y, .int .i64 m, .int .i64 d, .int .i64 (n % 24)] 87)) := ⟨hb.alloc hb.size _, hT2⟩
  have hv' := hv
  obtain ⟨v1, v2, v3, v4⟩ := hv
  have hl := DM.len_bd y m
  obtain ⟨a1, a2, a3, a4, e1⟩ : ∃ a b c d, padL y 4 = [a, b, c, d] := ⟨_, _, _, _, rfl⟩
  obtain ⟨b1, b2, e2⟩ : ∃ a b, padL m 2 = [a, b] := ⟨_, _, rfl⟩
  obtain ⟨c1, c2, e3⟩ : ∃ a b, padL d 2 = [a, b] := ⟨_, _, rfl⟩
  obtain ⟨d1, d2, e4⟩ : ∃ a b, padL (n % 24) 2 = [a, b] := ⟨_, _, rfl⟩
  have E : Hid ((padL y 4 = [a1, a2, a3, a4] ∧ padL m 2 = [b1, b2]) ∧ (padL d 2 = [c1, c2] ∧ padL (n % 24) 2 = [d1, d2])) := ⟨⟨e1, e2⟩, e3, e4⟩
  have F : Hid (textL y m d (n % 24) = [a1, a2, a3, a4, 45, b1, b2, 45, c1, c2, 32, d1, d2, 104]) := by
    have : textL y m d (n % 24) = padL y 4 ++ [45] ++ padL m 2 ++ [45] ++ padL d 2 ++ [32] ++ padL (n % 24) 2 ++ [104] := rfl
    rw [this, e1, e2, e3, e4]; exact rfl
  have N : Hid (DM.num y m d = n / 24) := hn
  clear e1 e2 e3 e4 hn
  have hk1 := hk.1.drew
  have hk2 : Tabs (w1.alloc (.cells #[.int .i64 y, .int .i64 m, .int .i64 d, .int .i64 (n % 24)] 87)).drew := hT2.drewN 1
  go_region_held3 (fun w' => w'.cell? ⟨w1.heap.size, 0, none⟩ = some (.int .i64 y) ∧ w'.cell? ⟨w1.heap.size, 1, none⟩ = some (.int .i64 m) ∧
      w'.cell? ⟨w1.heap.size, 2, none⟩ = some (.int .i64 d) ∧ w'.cell? ⟨w1.heap.size, 3, none⟩ = some (.int .i64 (n % 24)) ∧ Below w.heap.size w w' ∧ Tabs w')
    (first | go_keep | (go_split_ands; exact keep_call (by assumption) (by assumption) (by assumption) (by assumption) (by assumption) (by assumption) hb2))
    (first | (go_at_call 52; refine (padded_any _ _ _ ?_ (by omega)).mono ?_; (go_split_ands; assumption); rintro e w2 ⟨rfl, hb2⟩; first | rw [E.out.1.1] | rw [E.out.1.2] | rw [E.out.2.1] | rw [E.out.2.2]))
  go_wp2
  go_ret
  exact ⟨y, m, d, by rw [strV, F.out]; rfl, hv', N.out, hy1, hy2, by go_split_ands; assumption⟩

set_option maxHeartbeats 400000 in
theorem rtext_no (n : Int) (w : World) (h : n < 0 ∨ 16777216 < n) : Calls Tryd.prog 47 #[.int .i64 n] w (TextNo w) := by
  go_enter Tryd.func47, Tryd.ntmps47
  go_wp2_with (go_at_call 64; refine (rof_no _ _ h).mono ?_; rintro e w1 ⟨rfl, hb⟩)
  go_ret
  exact ⟨rfl, hb.alloc hb.size _⟩

theorem two_open (n : Int) (w : World) (h : 0 ≤ n ∧ n ≤ 99) :
    Calls Tryd.prog 65 #[.int .i64 n] w fun e w' => e = .returned (.string ⟨(dig2 n).toArray⟩) ∧ Below w.heap.size w w' := two_any n w h.1 h.2

set_option maxHeartbeats 2000000 in
theorem rtext_yes (n : Int) (w : World) (h1 : 0 ≤ n) (h2 : n ≤ 16777216) (hT : Tabs w) : Calls Tryd.prog 47 #[.int .i64 n] w (TextYes n w) := by
  go_enter Tryd.func47, Tryd.ntmps47
  go_wp2_with (go_at_call 64; refine (rof_yes _ _ h1 h2).mono ?_; rintro e w1 ⟨y, m, d, rfl, hv, hn, hy1, hy2, hb⟩)
  have hT1 : Tabs w1 := hT.below hT.size hb hb.size
  have hT2 := hT1.alloc (.cells #[.int .i64 y, .int .i64 m, .int .i64 d, .int .i64 (n % 24)] 87)
  have hk : KeepT w (w1.alloc (.cells #[.int .i64 y, .int .i64 m, .int .i64 d, .int .i64 (n % 24)] 87)) := ⟨hb.alloc hb.size _, hT2⟩
  have hv' := hv
  obtain ⟨v1, v2, v3, v4⟩ := hv
  have hl := DM.len_bd y m
  have r1 : IntKind.i64.wrap (y.tdiv 100) = y / 100 := by
    rw [Int.tdiv_eq_ediv_of_nonneg (by omega), IntKind.wrap_i64]; omega
  have r2 : y.tmod 100 = y % 100 := Int.tmod_eq_emod_of_nonneg (by omega)
  have q1 : 0 ≤ IntKind.i64.wrap (y.tdiv 100) ∧ IntKind.i64.wrap (y.tdiv 100) ≤ 99 := by rw [r1]; omega
  have q2 : 0 ≤ y.tmod 100 ∧ y.tmod 100 ≤ 99 := by rw [r2]; omega
  obtain ⟨a1, a2, e0⟩ : ∃ a b, dig2 (y / 100) = [a, b] := ⟨_, _, rfl⟩
  obtain ⟨a3, a4, e1⟩ : ∃ a b, dig2 (y % 100) = [a, b] := ⟨_, _, rfl⟩
  obtain ⟨b1, b2, e2⟩ : ∃ a b, dig2 m = [a, b] := ⟨_, _, rfl⟩
  obtain ⟨c1, c2, e3⟩ : ∃ a b, dig2 d = [a, b] := ⟨_, _, rfl⟩
  obtain ⟨d1, d2, e4⟩ : ∃ a b, dig2 (n % 24) = [a, b] := ⟨_, _, rfl⟩
  have E : Hid ((dig2 (IntKind.i64.wrap (y.tdiv 100)) = [a1, a2] ∧ dig2 (y.tmod 100) = [a3, a4]) ∧ dig2 m = [b1, b2] ∧ (dig2 d = [c1, c2] ∧ dig2 (n % 24) = [d1, d2])) := ⟨⟨r1 ▸ e0, r2 ▸ e1⟩, e2, e3, e4⟩
  have F : Hid (textL y m d (n % 24) = [a1, a2, a3, a4, 45, b1, b2, 45, c1, c2, 32, d1, d2, 104]) := by
    have : textL y m d (n % 24) = dig2 (y / 100) ++ dig2 (y % 100) ++ [45] ++ dig2 m ++ [45] ++ dig2 d ++ [32] ++ dig2 (n % 24) ++ [104] := rfl
    rw [this, e0, e1, e2, e3, e4]; exact rfl
  have N : Hid (DM.num y m d = n / 24) := hn
  clear e0 e1 e2 e3 e4 hn r1 r2
  have hk1 := hk.1.drew
  have hk2 : Tabs (w1.alloc (.cells #[.int .i64 y, .int .i64 m, .int .i64 d, .int .i64 (n % 24)] 87)).drew := hT2.drewN 1
  go_region_held3 (fun w' => w'.cell? ⟨w1.heap.size, 0, none⟩ = some (.int .i64 y) ∧ w'.cell? ⟨w1.heap.size, 1, none⟩ = some (.int .i64 m) ∧
      w'.cell? ⟨w1.heap.size, 2, none⟩ = some (.int .i64 d) ∧ w'.cell? ⟨w1.heap.size, 3, none⟩ = some (.int .i64 (n % 24)) ∧ Below w.heap.size w w' ∧ Tabs w')
    (first | go_keep | (go_split_ands; exact keep_call (by assumption) (by assumption) (by assumption) (by assumption) (by assumption) (by assumption) hb2))
    (first | (go_at_call 65; refine (two_open _ _ (by omega)).mono ?_; rintro e w2 ⟨rfl, hb2⟩; first | rw [E.out.1.1] | rw [E.out.1.2] | rw [E.out.2.1] | rw [E.out.2.2.1] | rw [E.out.2.2.2]))
  go_wp2
  go_ret
  exact ⟨y, m, d, by rw [strV, F.out]; rfl, hv', N.out, hy1, hy2, by go_split_ands; assumption⟩
end Go.Proofs.YtminphldifncaaaDoor

