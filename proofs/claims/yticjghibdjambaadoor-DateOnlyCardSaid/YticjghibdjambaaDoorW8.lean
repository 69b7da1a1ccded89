/- Walks of the reference's two and of date.padded. -/
import Derived.Test.YticjghibdjambaaDoorW7
import Derived.Test.YticjghibdjambaaDoorShelf
import Derived.Lib.SmallJoins
namespace Go.Proofs.YticjghibdjambaaDoor
open Go.RowKit

/-- Two digits. -/
def dig2 (n : Int) : List UInt8 := [UInt8.ofNat (48 + (n / 10).toNat), UInt8.ofNat (48 + (n % 10).toNat)]
def strV (l : List UInt8) : Value := .string ⟨l.toArray⟩

/-- The tables that the functions read. -/
structure Tabs (w : World) : Prop where
  mon : Months w
  pow : Lib.TabIs Tryd.prog w powName .u64 Lib.pow10Tab
  size : 2 ≤ w.heap.size
theorem Tabs.below {w w' : World} (h : Tabs w) {B : Nat} (hB : 2 ≤ B) (hb : Below B w w') (hs : w.heap.size ≤ w'.heap.size) : Tabs w' :=
  ⟨h.mon.below (by omega) hb, var?_below (g := 1) hb (show Tryd.prog.globalNamed powName = some 1 by kernel_rfl) (by omega) h.pow, Nat.le_trans h.size hs⟩
theorem Tabs.alloc {w : World} (h : Tabs w) (o : Obj) : Tabs (w.alloc o) :=
  h.below h.size ((Below.refl _ _).alloc (Nat.le_refl _) o) (by simp)
theorem Tabs.drewN {w : World} (h : Tabs w) (n : Nat) : Tabs (w.drewN n) :=
  h.below h.size (below_drewN (Below.refl _ _) n) (Nat.le_refl _)

theorem below_grow (w : World) (n : Nat) (os : Array Obj) : Below w.heap.size w (Go.Sort.grow (w.drewN n) os) :=
  ⟨rfl, rfl, rfl, by simp [Go.Sort.grow], fun k hk => by
    have := Go.Sort.heap_grow_old (w.drewN n) os (k := k) hk
    exact this⟩

set_option maxHeartbeats 400000 in
theorem two_any (n : Int) (w : World) (h0 : 0 ≤ n) (h1 : n ≤ 99) :
    Calls Tryd.prog 27 #[.int .i64 n] w fun e w' => e = .returned (strV (dig2 n)) ∧ Below w.heap.size w w' := by
  have hk := run_convert_bytes_arg (P := Tryd.prog) (w.alloc (.cells #[.int .u8 (48 + n / 10), .int .u8 (48 + n % 10)] 5)) 43 5 Tryd.underlying43 Tryd.underlying5 w.heap.size 0 2 2 [48 + n / 10, 48 + n % 10] rfl (by
    intro i hi
    rw [World.cell?_alloc_at _ _ _ _ rfl]
    match i, hi with
    | 0, _ => rfl
    | 1, _ => rfl) 9 Tryd.underlying9
  have he : Hid (Value.string (strOfNums [48 + n / 10, 48 + n % 10]) = strV (dig2 n)) := by
    have e1 : (48 + n / 10).toNat = 48 + (n / 10).toNat := by omega
    have e2 : (48 + n % 10).toNat = 48 + (n % 10).toNat := by omega
    have : strOfNums [48 + n / 10, 48 + n % 10] = ⟨(dig2 n).toArray⟩ := by
      simp only [strOfNums, dig2, List.map_cons, List.map_nil, e1, e2]
    show Value.string _ = Value.string _
    rw [this]
  generalize strOfNums [48 + n / 10, 48 + n % 10] = st at *
  go_enter Tryd.func27, Tryd.ntmps27
  go_wp2
  go_ret
  refine ⟨?_, (Below.refl _ _).alloc (Nat.le_refl _) _⟩
  rw [← he.out]
  rfl

theorem decD (i : Nat) (h : i < 100) : (if i < 10 then [48] else []) ++ Lib.decDigits i = dig2 i := by
  by_cases h1 : i < 10
  · rw [if_pos h1, Lib.decDigits_one h1]
    have e1 : ((i : Int) / 10).toNat = 0 := by omega
    have e2 : ((i : Int) % 10).toNat = i := by omega
    simp [dig2, e1, e2]
  · rw [if_neg h1, Lib.decDigits_two h1 h]
    have e1 : ((i : Int) / 10).toNat = i / 10 := by omega
    have e2 : ((i : Int) % 10).toNat = i % 10 := by omega
    simp [dig2, e1, e2]
theorem itoa4 (i : Int) (h : 1000 ≤ i) (h2 : i ≤ 9999) : Lib.itoa i = dig2 (i / 100) ++ dig2 (i % 100) := by
  have a : ¬ i < 0 := by omega
  rw [Lib.itoa, if_neg a, Lib.decDigits, dif_neg (by omega), Lib.decDigits, dif_neg (by omega), Lib.decDigits_two (by omega) (by omega)]
  simp only [dig2, List.cons_append, List.nil_append, List.append_assoc]
  have e1 : i.toNat / 10 / 10 = (i / 100).toNat := by omega
  have e2 : (i / 100 / 10).toNat = (i / 100).toNat / 10 := by omega
  have e3 : (i / 100 % 10).toNat = (i / 100).toNat % 10 := by omega
  have e4 : (i % 100 / 10).toNat = i.toNat / 10 % 10 := by omega
  have e5 : (i % 100 % 10).toNat = i.toNat % 10 := by omega
  rw [e1, e2, e3, e4, e5]

set_option maxHeartbeats 400000 in
theorem padded2 (n : Int) (w : World) (h0 : 0 ≤ n) (h1 : n ≤ 99) :
    Calls Tryd.prog 26 #[.int .i64 n, .int .i64 2] w fun e w' => e = .returned (strV (dig2 n)) ∧ Below w.heap.size w w' := by
  obtain ⟨i, rfl⟩ := Int.eq_ofNat_of_zero_le h0
  have hi : i < 100 := by omega
  have D := decD i hi
  by_cases h10 : i < 10
  · rw [if_pos h10] at D
    have D1 := Lib.decDigits_one h10
    obtain ⟨c, hc⟩ : ∃ c, c = UInt8.ofNat (48 + i) := ⟨_, rfl⟩
    rw [← hc] at D1
    rw [D1] at D
    have D2 := Lib.hid D
    have D3 := Lib.hid D1
    clear D D1 hc h0 h1
    go_enter Tryd.func26, Tryd.ntmps26
    go_wp2_with (go_at_call 30; refine (Tryd.strconv_Itoa_small i hi _).mono ?_; rintro e w' ⟨rfl, hq⟩; obtain rfl : w = w' := hq.symm; rw [D3.out])
    refine wp_loop_rounds 2 ?_
    rw [rounds_succ]
    go_wp2
    rw [rounds_succ]
    go_wp2
    go_ret
    exact ⟨by rw [← D2.out]; rfl, Below.refl _ _⟩
  · rw [if_neg h10] at D
    have D1 := Lib.decDigits_two h10 hi
    obtain ⟨c, hc⟩ : ∃ c, c = UInt8.ofNat (48 + i / 10) := ⟨_, rfl⟩
    obtain ⟨c2, hc2⟩ : ∃ c, c = UInt8.ofNat (48 + i % 10) := ⟨_, rfl⟩
    rw [← hc, ← hc2] at D1
    rw [D1] at D
    have D2 := Lib.hid D
    have D3 := Lib.hid D1
    clear D D1 hc hc2 h0 h1
    go_enter Tryd.func26, Tryd.ntmps26
    go_wp2_with (go_at_call 30; refine (Tryd.strconv_Itoa_small i hi _).mono ?_; rintro e w' ⟨rfl, hq⟩; obtain rfl : w = w' := hq.symm; rw [D3.out])
    refine wp_loop_rounds 1 ?_
    rw [rounds_succ]
    go_wp2
    go_ret
    exact ⟨by rw [← D2.out]; rfl, Below.refl _ _⟩

theorem dig4_form (n : Int) : ∃ a b c d : UInt8, dig2 (n / 100) ++ dig2 (n % 100) = [a, b, c, d] := ⟨_, _, _, _, rfl⟩

set_option maxHeartbeats 400000 in
theorem padded4 (n : Int) (w : World) (hT : Tabs w) (h0 : 1000 ≤ n) (h1 : n ≤ 9999) :
    Calls Tryd.prog 26 #[.int .i64 n, .int .i64 4] w fun e w' => e = .returned (strV (dig2 (n / 100) ++ dig2 (n % 100))) ∧ Below w.heap.size w w' := by
  have D := itoa4 n h0 h1
  obtain ⟨a, b, c, d, hd⟩ := dig4_form n
  rw [hd] at D
  have D3 := Lib.hid D
  have D2 := Lib.hid hd
  clear D hd
  go_enter Tryd.func26, Tryd.ntmps26
  go_wp2_with (go_at_call 30; refine (Tryd.strconv_Itoa n (by omega) (by omega) _ hT.pow).mono ?_; rintro e w1 ⟨rfl, hq⟩; rw [D3.out])
  have hb : Below w.heap.size w w1 := by
    obtain ⟨k, os, rfl⟩ := hq
    exact below_grow _ _ _
  clear hq
  refine wp_loop_rounds 1 ?_
  rw [rounds_succ]
  go_wp2
  go_ret
  exact ⟨by rw [D2.out]; rfl, hb⟩
end Go.Proofs.YticjghibdjambaaDoor
