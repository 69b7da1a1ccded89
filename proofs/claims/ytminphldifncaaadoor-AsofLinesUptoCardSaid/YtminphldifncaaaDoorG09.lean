/- Joined of: A11 A12. -/
import Derived.Test.YtminphldifncaaaDoorA4
import Derived.Test.YtminphldifncaaaDoorA5
import Derived.Test.YtminphldifncaaaDoorW11
/- Walks of the reference's Number, Day, Place, Reason. -/
set_option linter.unusedSimpArgs false
set_option linter.unusedVariables false
namespace Go.Proofs.YtminphldifncaaaDoor
open Go.RowKit
attribute [local go_sem] alloc_drewN setCell_drewN shape_drewN

theorem dec_step {m : Nat} (h : 10 ≤ m) : Lib.decDigits m = Lib.decDigits (m / 10) ++ [UInt8.ofNat (48 + m % 10)] := by
  rw [Lib.decDigits, dif_neg (by omega)]
theorem dec_last {m : Nat} (h : m < 10) : Lib.decDigits m = [UInt8.ofNat (48 + m)] := by
  rw [Lib.decDigits, dif_pos h]
theorem sgn_dec (n : Int) : sgnL n = (if n < 0 then 45 else 43) :: Lib.decDigits n.natAbs := by
  unfold sgnL Lib.itoa
  by_cases h : n < 0
  · rw [if_pos h, if_pos h, if_pos h]
  · rw [if_neg h, if_neg h, if_neg h, show n.toNat = n.natAbs by omega]
theorem conv_one (w : World) (v : Nat) : (convert 70 9 (.slice (some ⟨w.heap.size, 0, none⟩) 1 1)).run Tryd.prog (w.alloc (.cells #[.int .u8 (v : Int)] 5)) = .ok (.string (bs [UInt8.ofNat v])) (w.alloc (.cells #[.int .u8 (v : Int)] 5)) := by
  have hk := run_convert_bytes_arg (P := Tryd.prog) (w.alloc (.cells #[.int .u8 (v : Int)] 5)) 70 5 Tryd.underlying70 Tryd.underlying5 w.heap.size 0 1 1 [(v : Int)] rfl (by
    intro i hi
    rw [World.cell?_alloc_at _ _ _ _ rfl]
    match i, hi with
    | 0, _ => rfl) 9 Tryd.underlying9
  rw [hk]
  rfl
set_option maxRecDepth 100000 in
set_option maxHeartbeats 4000000 in
theorem rnum_any (n : Int) (w : World) (h0 : -9223372036854775808 ≤ n) (h1 : n ≤ 9223372036854775807) : Calls Tryd.prog 28 #[.int .i64 n] w fun e w' => e = .returned (.string (bs (sgnL n))) ∧ Below w.heap.size w w' := by
  obtain ⟨M, hM⟩ : ∃ M, n.natAbs = M := ⟨_, rfl⟩
  have hMl : (Lib.decDigits M).length ≤ 21 := by
    have := sgn_dec n
    have h2 := Lib.itoa_length_le n h0 h1
    rw [hM] at this
    unfold sgnL at this
    split at this
    · rw [this] at h2; simp at h2; omega
    · injection this with _ h3; rw [h3] at h2; exact h2
  have hS : Hid (sgnL n = (if n < 0 then 45 else 43) :: Lib.decDigits M) := by show _ = _; rw [sgn_dec, hM]
  have hMM : M ≤ 9223372036854775808 := by omega
  by_cases hn : n < 0
  · rw [if_pos hn] at hS
    have e1 : IntKind.u64.wrap n = 18446744073709551616 - (M : Int) := by rw [IntKind.wrap_u64]; omega
    have e2 : IntKind.u64.wrap (-(18446744073709551616 - (M : Int))) = (M : Int) := by rw [IntKind.wrap_u64]; omega
    go_enter Tryd.func28, Tryd.ntmps28
    go_wp2_with fail
    go_loopw [4, 5] (fun s4 s5 wr => ∃ (m : Nat) (L : Bts), s4 = .int .u64 m ∧ s5 = .string (bs L) ∧ m ≤ 9223372036854775808 ∧ Hid (Lib.decDigits M = Lib.decDigits m ++ L) ∧ L.length ≤ 21 ∧ Below w.heap.size w wr ∧ w.heap.size ≤ wr.heap.size) (fun s4 _ _ => (intOf s4).toNat)
    case atStart => exact ⟨M, [], rfl, rfl, hMM, (List.append_nil _).symm, Nat.zero_le _, Below.refl _ _, Nat.le_refl _⟩
    case round =>
      obtain ⟨m, L, rfl, rfl, hm, hD, hL, hBw, hz⟩ := hrel
      have hsz : (bs L).size = L.length := bs_size L
      by_cases hlt : 10 ≤ m
      · obtain ⟨r, hr⟩ : ∃ r, m % 10 = r := ⟨_, rfl⟩
        obtain ⟨q, hq⟩ : ∃ q, m / 10 = q := ⟨_, rfl⟩
        have hd := dec_step hlt
        rw [hr, hq] at hd
        have f6 : (m : Int) / 10 = (q : Int) := by omega
        have f1 : (m : Int).tmod 10 = (r : Int) := by rw [Int.tmod_eq_emod_of_nonneg (by omega)]; omega
        have f2 : IntKind.u64.wrap ((m : Int).tdiv 10) = (q : Int) := by rw [Int.tdiv_eq_ediv_of_nonneg (by omega), IntKind.wrap_u64]; omega
        have f3 : IntKind.u64.wrap (48 + (r : Int)) = 48 + (r : Int) := by rw [IntKind.wrap_u64]; omega
        have f4 : IntKind.u8.wrap (48 + (r : Int)) = 48 + (r : Int) := by rw [IntKind.wrap_u8]; omega
        have f5 : (10 : Int) ≤ (m : Int) := by omega
        have hc := conv_one wr (48 + r)
        obtain ⟨ch, hch⟩ : ∃ c, UInt8.ofNat (48 + r) = c := ⟨_, rfl⟩
        rw [hch] at hc hd
        have hs : bs [ch] ++ bs L = bs (ch :: L) := by apply ByteArray.ext; simp [bs]
        have hs1 : (bs [ch]).size = 1 := rfl
        have hL2 : Hid (Lib.decDigits M = Lib.decDigits q ++ ch :: L) := by show _ = _; rw [hD.out, hd]; simp
        have hg : ¬ (9223372036854775807 : Int) < 1 + (L.length : Int) := by omega
        rw [show ((48 + r : Nat) : Int) = 48 + (r : Int) by omega] at hc
        have hq2 : q ≤ 9223372036854775808 := by omega
        have hq3 : q < m := by omega
        clear hd hch hr hq
        go_wp2_with fail
        go_roundw
        case rel => exact ⟨q, _, by go_num, rfl, hq2, hL2, by
          have := congrArg List.length hL2.out
          simp at this
          simp
          omega, hBw.alloc hz _, by simp; omega⟩
        case measure => simp [intOf]; omega
      · have f5 : ¬ (10 : Int) ≤ (m : Int) := by omega
        have f3 : IntKind.u64.wrap (48 + (m : Int)) = 48 + (m : Int) := by rw [IntKind.wrap_u64]; omega
        have f4 : IntKind.u8.wrap (48 + (m : Int)) = 48 + (m : Int) := by rw [IntKind.wrap_u8]; omega
        have hc := conv_one wr (48 + m)
        rw [show ((48 + m : Nat) : Int) = 48 + (m : Int) by omega] at hc
        have hd := dec_last (show m < 10 by omega)
        obtain ⟨ch, hch⟩ : ∃ c, UInt8.ofNat (48 + m) = c := ⟨_, rfl⟩
        rw [hch] at hc hd
        have hs1 : (bs [ch]).size = 1 := rfl
        have hs3 : (⟨#[45]⟩ : ByteArray).size = 1 := rfl
        have hs : (⟨#[45]⟩ : ByteArray) ++ bs [ch] = bs [45, ch] := by apply ByteArray.ext; simp [bs]
        have hs4 : (bs [45, ch]).size = 2 := rfl
        have hs2 : bs [45, ch] ++ bs L = bs (45 :: ch :: L) := by apply ByteArray.ext; simp [bs]
        have hL2 : Hid (Lib.decDigits M = ch :: L) := by show _ = _; rw [hD.out, hd]; rfl
        have hg : ¬ (9223372036854775807 : Int) < 2 + (L.length : Int) := by omega
        clear hd hch
        go_wp2_with fail
        go_ret
        exact ⟨by rw [hS.out, hL2.out]; rfl, hBw.alloc hz _⟩
  · rw [if_neg hn] at hS
    have e1 : IntKind.u64.wrap n = (M : Int) := by rw [IntKind.wrap_u64]; omega
    go_enter Tryd.func28, Tryd.ntmps28
    go_wp2_with fail
    go_loopw [4, 5] (fun s4 s5 wr => ∃ (m : Nat) (L : Bts), s4 = .int .u64 m ∧ s5 = .string (bs L) ∧ m ≤ 9223372036854775808 ∧ Hid (Lib.decDigits M = Lib.decDigits m ++ L) ∧ L.length ≤ 21 ∧ Below w.heap.size w wr ∧ w.heap.size ≤ wr.heap.size) (fun s4 _ _ => (intOf s4).toNat)
    case atStart => exact ⟨M, [], rfl, rfl, hMM, (List.append_nil _).symm, Nat.zero_le _, Below.refl _ _, Nat.le_refl _⟩
    case round =>
      obtain ⟨m, L, rfl, rfl, hm, hD, hL, hBw, hz⟩ := hrel
      have hsz : (bs L).size = L.length := bs_size L
      by_cases hlt : 10 ≤ m
      · obtain ⟨r, hr⟩ : ∃ r, m % 10 = r := ⟨_, rfl⟩
        obtain ⟨q, hq⟩ : ∃ q, m / 10 = q := ⟨_, rfl⟩
        have hd := dec_step hlt
        rw [hr, hq] at hd
        have f6 : (m : Int) / 10 = (q : Int) := by omega
        have f1 : (m : Int).tmod 10 = (r : Int) := by rw [Int.tmod_eq_emod_of_nonneg (by omega)]; omega
        have f2 : IntKind.u64.wrap ((m : Int).tdiv 10) = (q : Int) := by rw [Int.tdiv_eq_ediv_of_nonneg (by omega), IntKind.wrap_u64]; omega
        have f3 : IntKind.u64.wrap (48 + (r : Int)) = 48 + (r : Int) := by rw [IntKind.wrap_u64]; omega
        have f4 : IntKind.u8.wrap (48 + (r : Int)) = 48 + (r : Int) := by rw [IntKind.wrap_u8]; omega
        have f5 : (10 : Int) ≤ (m : Int) := by omega
        have hc := conv_one wr (48 + r)
        obtain ⟨ch, hch⟩ : ∃ c, UInt8.ofNat (48 + r) = c := ⟨_, rfl⟩
        rw [hch] at hc hd
        have hs : bs [ch] ++ bs L = bs (ch :: L) := by apply ByteArray.ext; simp [bs]
        have hs1 : (bs [ch]).size = 1 := rfl
        have hL2 : Hid (Lib.decDigits M = Lib.decDigits q ++ ch :: L) := by show _ = _; rw [hD.out, hd]; simp
        have hg : ¬ (9223372036854775807 : Int) < 1 + (L.length : Int) := by omega
        rw [show ((48 + r : Nat) : Int) = 48 + (r : Int) by omega] at hc
        have hq2 : q ≤ 9223372036854775808 := by omega
        have hq3 : q < m := by omega
        clear hd hch hr hq
        go_wp2_with fail
        go_roundw
        case rel => exact ⟨q, _, by go_num, rfl, hq2, hL2, by
          have := congrArg List.length hL2.out
          simp at this
          simp
          omega, hBw.alloc hz _, by simp; omega⟩
        case measure => simp [intOf]; omega
      · have f5 : ¬ (10 : Int) ≤ (m : Int) := by omega
        have f3 : IntKind.u64.wrap (48 + (m : Int)) = 48 + (m : Int) := by rw [IntKind.wrap_u64]; omega
        have f4 : IntKind.u8.wrap (48 + (m : Int)) = 48 + (m : Int) := by rw [IntKind.wrap_u8]; omega
        have hc := conv_one wr (48 + m)
        rw [show ((48 + m : Nat) : Int) = 48 + (m : Int) by omega] at hc
        have hd := dec_last (show m < 10 by omega)
        obtain ⟨ch, hch⟩ : ∃ c, UInt8.ofNat (48 + m) = c := ⟨_, rfl⟩
        rw [hch] at hc hd
        have hs1 : (bs [ch]).size = 1 := rfl
        have hs3 : (⟨#[43]⟩ : ByteArray).size = 1 := rfl
        have hs : (⟨#[43]⟩ : ByteArray) ++ bs [ch] = bs [43, ch] := by apply ByteArray.ext; simp [bs]
        have hs4 : (bs [43, ch]).size = 2 := rfl
        have hs2 : bs [43, ch] ++ bs L = bs (43 :: ch :: L) := by apply ByteArray.ext; simp [bs]
        have hL2 : Hid (Lib.decDigits M = ch :: L) := by show _ = _; rw [hD.out, hd]; rfl
        have hg : ¬ (9223372036854775807 : Int) < 2 + (L.length : Int) := by omega
        clear hd hch
        go_wp2_with fail
        go_ret
        exact ⟨by rw [hS.out, hL2.out]; rfl, hBw.alloc hz _⟩
set_option maxHeartbeats 1000000 in
theorem rday_any (d : Int) (w : World) (hT : Tabs w) (h0 : 0 ≤ d) (h1 : d ≤ 699050) : Calls Tryd.prog 46 #[.int .i64 d] w fun e w' => e = .returned (.string (bs (dayL d))) ∧ Below w.heap.size w w' := by
  have K := Lib.hid (rtext_any (24 * d) w hT)
  have hS : Hid (dayL d = (textR (24 * d)).take 10) := rfl
  have hl := textR_len (24 * d)
  have hw : IntKind.i64.wrap (24 * d) = 24 * d := by rw [IntKind.wrap_i64]; omega
  obtain ⟨L, hL⟩ : ∃ L, textR (24 * d) = L := ⟨_, rfl⟩
  rw [hL] at K hS hl
  clear hL
  have hz : (bs L).size = L.length := bs_size L
  have hx : (bs L).extract 0 10 = bs (L.take 10) := by
    apply ByteArray.ext; simp [bs]
  have hx0 : (bs L).extract 0 L.length = bs L := by
    apply ByteArray.ext; simp [bs]
  rcases hl with hl | hl
  · rw [hl] at hz
    go_enter Tryd.func46, Tryd.ntmps46
    go_wp2_with (first | (go_at_call 47; refine K.out.mono ?_; rintro e1 w1 ⟨rfl, hb1⟩) | fail)
    go_ret
    exact ⟨by rw [hS.out, ← hx]; rfl, hb1⟩
  · have hL0 : L = [] := List.eq_nil_of_length_eq_zero hl
    subst hL0
    have hb0 : bs [] = ⟨#[]⟩ := rfl
    rw [hb0] at K hz
    go_enter Tryd.func46, Tryd.ntmps46
    go_wp2_with (first | (go_at_call 47; refine K.out.mono ?_; rintro e1 w1 ⟨rfl, hb1⟩) | fail)
    go_ret
    exact ⟨by rw [hS.out]; rfl, hb1⟩
set_option maxHeartbeats 1000000 in
theorem rplace_any (X : Bas) (pl : List Bts) (i : Int) (w : World) {B : Nat} (hN : NamesAt w B X.P pl) (hB : B ≤ w.heap.size) (hl : pl.length ≤ 9223372036854775807) :
    Calls Tryd.prog 53 #[.agg #[.string X.nm, .slice X.a1 X.l1 X.c1, .int .i64 X.cl, .slice X.P pl.length X.cP, .slice X.a4 X.l4 X.c4, .slice X.a5 X.l5 X.c5, .slice X.a6 X.l6 X.c6, .slice X.a7 X.l7 X.c7, .slice X.a8 X.l8 X.c8, .slice X.a9 X.l9 X.c9, .int .i64 X.er], .int .i64 i] w fun e w' => e = .returned (.string (bs (placeL pl i))) ∧ Below w.heap.size w w' := by
  have hS : Hid (placeL pl i = if i < 0 ∨ (pl.length : Int) ≤ i then [63] else pl.getD i.toNat []) := rfl
  obtain ⟨np, hnp⟩ : ∃ n, pl.length = n := ⟨_, rfl⟩
  by_cases h0 : i < 0
  · rw [if_pos (.inl h0)] at hS
    rw [hnp]
    go_enter Tryd.func53, Tryd.ntmps53
    go_wp2_with fail
    go_ret
    exact ⟨by rw [hS.out]; rfl, below_new _ _⟩
  by_cases h1 : (np : Int) ≤ i
  · rw [hnp, if_pos (.inr h1)] at hS
    rw [hnp]
    go_enter Tryd.func53, Tryd.ntmps53
    go_wp2_with fail
    go_ret
    exact ⟨by rw [hS.out]; rfl, below_new _ _⟩
  · rw [hnp, if_neg (by omega)] at hS
    obtain ⟨k, rfl⟩ : ∃ k : Nat, i = k := ⟨i.toNat, by omega⟩
    obtain ⟨x, hx⟩ : ∃ x, pl[k]? = some x := ⟨_, List.getElem?_eq_getElem (by omega)⟩
    rw [Int.toNat_natCast, List.getD_eq_getElem?_getD, hx] at hS
    obtain ⟨b, off, e, hb, hc⟩ := hN.at_ hx
    have hbw : b < w.heap.size := by omega
    rw [hnp, e]
    go_enter Tryd.func53, Tryd.ntmps53
    go_wp2_with fail
    go_ret
    exact ⟨by rw [hS.out]; rfl, below_new _ _⟩
theorem rreason_any (y : Int) (w : World) : Calls Tryd.prog 54 #[.int .i64 y] w fun e w' => e = .returned (.string (bs (whyL y))) ∧ Below w.heap.size w w' := by
  unfold whyL
  by_cases h0 : y = 0
  · subst h0
    go_enter Tryd.func54, Tryd.ntmps54
    go_wp2_with fail
    go_ret
    exact ⟨rfl, below_new _ _⟩
  by_cases h1 : y = 1
  · subst h1
    go_enter Tryd.func54, Tryd.ntmps54
    go_wp2_with fail
    go_ret
    exact ⟨rfl, below_new _ _⟩
  by_cases h2 : y = 2
  · subst h2
    go_enter Tryd.func54, Tryd.ntmps54
    go_wp2_with fail
    go_ret
    exact ⟨rfl, below_new _ _⟩
  by_cases h3 : y = 3
  · subst h3
    go_enter Tryd.func54, Tryd.ntmps54
    go_wp2_with fail
    go_ret
    exact ⟨rfl, below_new _ _⟩
  rw [if_neg h0, if_neg h1, if_neg h2, if_neg h3]
  have hb : y < 0 ∨ 3 < y := by omega
  rcases hb with hb | hb
  all_goals
    go_enter Tryd.func54, Tryd.ntmps54
    go_wp2_with fail
    go_ret
    exact ⟨rfl, below_new _ _⟩
end Go.Proofs.YtminphldifncaaaDoor

/- The walks of the reference's Line, Statement and At. (Printed by gen_a12.py.) -/
namespace Go.Proofs.YtminphldifncaaaDoor
open Go.RowKit LG
attribute [local go_sem] alloc_drewN setCell_drewN shape_drewN

theorem row_sum (d p n y r : Bts) : lineL [d, p, n, y, r] = d ++ [32] ++ p ++ [32] ++ n ++ [32] ++ y ++ [32] ++ r ++ [10] := by
  simp [lineL, Lib.join_cons, Lib.joinTail]
theorem head_sum (d p n y : Bts) : lineL [wAcc, d, p, n, wKno, y] = [97, 99, 99, 111, 117, 110, 116, 32] ++ d ++ [32] ++ p ++ [32] ++ n ++ [32, 107, 110, 111, 119, 110, 32] ++ y ++ [10] := by
  simp [lineL, Lib.join_cons, Lib.joinTail, wAcc, wKno]
theorem ope_sum (d : Bts) : lineL [wOpe, d] = [111, 112, 101, 110, 105, 110, 103, 32] ++ d ++ [10] := by
  simp [lineL, Lib.join_cons, Lib.joinTail, wOpe]
theorem clo_sum (d : Bts) : lineL [wClo, d] = [99, 108, 111, 115, 105, 110, 103, 32] ++ d ++ [10] := by
  simp [lineL, Lib.join_cons, Lib.joinTail, wClo]
theorem rat_any (l : List Et) (C : Option Addr) (cc : Nat) (owner place day known : Int) (w : World) {B : Nat} (hC : EntsAt w B C l) (hB : B ≤ w.heap.size) (hl : l.length ≤ 1000000) (hI : LitsIn l) :
    Calls Tryd.prog 21 #[.slice C l.length cc, .int .i64 owner, .int .i64 place, .int .i64 day, .int .i64 known] w (IntBe (account l owner place day known) w) := by
  have K := Lib.hid (raccount_any l C cc owner place day known w hC hB hl hI)
  generalize account l owner place day known = r at K ⊢
  go_enter Tryd.func21, Tryd.ntmps21
  go_wp2_with (first | (go_at_call 45; (with_reducible refine K.out.mono ?_); rintro e1 w1 ⟨rfl, hb1⟩) | fail)
  go_ret
  exact ⟨rfl, hb1⟩
set_option maxRecDepth 100000 in
set_option maxHeartbeats 8000000 in
theorem rline_any (X : Bas) (pl : List Bts) (e : Et) (w : World) {B : Nat} (hT : Tabs w) (hN : NamesAt w B X.P pl) (hB : B ≤ w.heap.size) (h0 : 0 ≤ e.day) (h1 : e.day ≤ 699050) (i1 : In64 e.litres) (i2 : In64 e.ref) (hpl : pl.length ≤ 9223372036854775807) (hp1 : Hid (∀ x ∈ pl, x.length ≤ 1100000)) :
    Calls Tryd.prog 29 #[.agg #[.string X.nm, .slice X.a1 X.l1 X.c1, .int .i64 X.cl, .slice X.P pl.length X.cP, .slice X.a4 X.l4 X.c4, .slice X.a5 X.l5 X.c5, .slice X.a6 X.l6 X.c6, .slice X.a7 X.l7 X.c7, .slice X.a8 X.l8 X.c8, .slice X.a9 X.l9 X.c9, .int .i64 X.er], .agg #[.int .i64 e.day, .int .i64 e.known, .int .i64 e.owner, .int .i64 e.place, .int .i64 e.litres, .int .i64 e.why, .int .i64 e.ref]] w fun x w' => x = .returned (.string (bs (rowL pl e))) ∧ Below w.heap.size w w' := by
  have hS : Hid (rowL pl e = dayL e.day ++ [32] ++ placeL pl e.place ++ [32] ++ sgnL e.litres ++ [32] ++ whyL e.why ++ [32] ++ sgnL e.ref ++ [10]) := row_sum _ _ _ _ _
  obtain ⟨N, hNN⟩ : ∃ N, w.heap.size = N := ⟨_, rfl⟩
  have l1 := dayL_len e.day
  have l2 := placeL_len hp1.out e.place
  have l3 := sgnL_len e.litres i1
  have l4 := whyL_len e.why
  have l5 := sgnL_len e.ref i2
  have KD := Lib.hid (fun (wx : World) (hx : Tabs wx) => rday_any e.day wx hx h0 h1)
  have KP := Lib.hid (fun (wx : World) (hz : N ≤ wx.heap.size) (hb : Below N w wx) => rplace_any X pl e.place wx (NamesAt.below (hN.more (by omega)) hb) hz hpl)
  have KN := Lib.hid (fun (wx : World) => rnum_any e.litres wx i1.1 i1.2)
  have KY := Lib.hid (fun (wx : World) => rreason_any e.why wx)
  have KR := Lib.hid (fun (wx : World) => rnum_any e.ref wx i2.1 i2.2)
  obtain ⟨sD, eD⟩ : ∃ s, dayL e.day = s := ⟨_, rfl⟩
  obtain ⟨sP, eP⟩ : ∃ s, placeL pl e.place = s := ⟨_, rfl⟩
  obtain ⟨sN, eN⟩ : ∃ s, sgnL e.litres = s := ⟨_, rfl⟩
  obtain ⟨sY, eY⟩ : ∃ s, whyL e.why = s := ⟨_, rfl⟩
  obtain ⟨sR, eR⟩ : ∃ s, sgnL e.ref = s := ⟨_, rfl⟩
  rw [eD] at KD l1 hS
  rw [eP] at KP l2 hS
  rw [eN] at KN l3 hS
  rw [eY] at KY l4 hS
  rw [eR] at KR l5 hS
  have zD : (bs sD).size = sD.length := bs_size _
  have zP : (bs sP).size = sP.length := bs_size _
  have zN : (bs sN).size = sN.length := bs_size _
  have zY : (bs sY).size = sY.length := bs_size _
  have zR : (bs sR).size = sR.length := bs_size _
  obtain ⟨f1, ef1⟩ : ∃ f, f = sD ++ ([32] : Bts) := ⟨_, rfl⟩
  have sf1 : bs sD ++ (⟨#[32]⟩ : ByteArray) = bs f1 := by rw [ef1]; apply ByteArray.ext; simp [bs]
  have zf1 : (bs f1).size = f1.length := bs_size _
  have nf1 : f1.length = sD.length + ([32] : Bts).length := by rw [ef1, List.length_append]
  have gf1 : ¬ (9223372036854775807 : Int) < (sD.length : Int) + 1 := by (try simp only [List.length_cons, List.length_nil] at *); omega
  have kf1 : ¬ 9223372036854775807 < (sD.length) + 1 := by (try simp only [List.length_cons, List.length_nil] at *); omega
  obtain ⟨f2, ef2⟩ : ∃ f, f = f1 ++ sP := ⟨_, rfl⟩
  have sf2 : bs f1 ++ bs sP = bs f2 := by rw [ef2]; apply ByteArray.ext; simp [bs]
  have zf2 : (bs f2).size = f2.length := bs_size _
  have nf2 : f2.length = f1.length + sP.length := by rw [ef2, List.length_append]
  have gf2 : ¬ (9223372036854775807 : Int) < (f1.length : Int) + (sP.length : Int) := by (try simp only [List.length_cons, List.length_nil] at *); omega
  have kf2 : ¬ 9223372036854775807 < (f1.length) + (sP.length) := by (try simp only [List.length_cons, List.length_nil] at *); omega
  obtain ⟨f3, ef3⟩ : ∃ f, f = f2 ++ ([32] : Bts) := ⟨_, rfl⟩
  have sf3 : bs f2 ++ (⟨#[32]⟩ : ByteArray) = bs f3 := by rw [ef3]; apply ByteArray.ext; simp [bs]
  have zf3 : (bs f3).size = f3.length := bs_size _
  have nf3 : f3.length = f2.length + ([32] : Bts).length := by rw [ef3, List.length_append]
  have gf3 : ¬ (9223372036854775807 : Int) < (f2.length : Int) + 1 := by (try simp only [List.length_cons, List.length_nil] at *); omega
  have kf3 : ¬ 9223372036854775807 < (f2.length) + 1 := by (try simp only [List.length_cons, List.length_nil] at *); omega
  obtain ⟨f4, ef4⟩ : ∃ f, f = f3 ++ sN := ⟨_, rfl⟩
  have sf4 : bs f3 ++ bs sN = bs f4 := by rw [ef4]; apply ByteArray.ext; simp [bs]
  have zf4 : (bs f4).size = f4.length := bs_size _
  have nf4 : f4.length = f3.length + sN.length := by rw [ef4, List.length_append]
  have gf4 : ¬ (9223372036854775807 : Int) < (f3.length : Int) + (sN.length : Int) := by (try simp only [List.length_cons, List.length_nil] at *); omega
  have kf4 : ¬ 9223372036854775807 < (f3.length) + (sN.length) := by (try simp only [List.length_cons, List.length_nil] at *); omega
  obtain ⟨f5, ef5⟩ : ∃ f, f = f4 ++ ([32] : Bts) := ⟨_, rfl⟩
  have sf5 : bs f4 ++ (⟨#[32]⟩ : ByteArray) = bs f5 := by rw [ef5]; apply ByteArray.ext; simp [bs]
  have zf5 : (bs f5).size = f5.length := bs_size _
  have nf5 : f5.length = f4.length + ([32] : Bts).length := by rw [ef5, List.length_append]
  have gf5 : ¬ (9223372036854775807 : Int) < (f4.length : Int) + 1 := by (try simp only [List.length_cons, List.length_nil] at *); omega
  have kf5 : ¬ 9223372036854775807 < (f4.length) + 1 := by (try simp only [List.length_cons, List.length_nil] at *); omega
  obtain ⟨f6, ef6⟩ : ∃ f, f = f5 ++ sY := ⟨_, rfl⟩
  have sf6 : bs f5 ++ bs sY = bs f6 := by rw [ef6]; apply ByteArray.ext; simp [bs]
  have zf6 : (bs f6).size = f6.length := bs_size _
  have nf6 : f6.length = f5.length + sY.length := by rw [ef6, List.length_append]
  have gf6 : ¬ (9223372036854775807 : Int) < (f5.length : Int) + (sY.length : Int) := by (try simp only [List.length_cons, List.length_nil] at *); omega
  have kf6 : ¬ 9223372036854775807 < (f5.length) + (sY.length) := by (try simp only [List.length_cons, List.length_nil] at *); omega
  obtain ⟨f7, ef7⟩ : ∃ f, f = f6 ++ ([32] : Bts) := ⟨_, rfl⟩
  have sf7 : bs f6 ++ (⟨#[32]⟩ : ByteArray) = bs f7 := by rw [ef7]; apply ByteArray.ext; simp [bs]
  have zf7 : (bs f7).size = f7.length := bs_size _
  have nf7 : f7.length = f6.length + ([32] : Bts).length := by rw [ef7, List.length_append]
  have gf7 : ¬ (9223372036854775807 : Int) < (f6.length : Int) + 1 := by (try simp only [List.length_cons, List.length_nil] at *); omega
  have kf7 : ¬ 9223372036854775807 < (f6.length) + 1 := by (try simp only [List.length_cons, List.length_nil] at *); omega
  obtain ⟨f8, ef8⟩ : ∃ f, f = f7 ++ sR := ⟨_, rfl⟩
  have sf8 : bs f7 ++ bs sR = bs f8 := by rw [ef8]; apply ByteArray.ext; simp [bs]
  have zf8 : (bs f8).size = f8.length := bs_size _
  have nf8 : f8.length = f7.length + sR.length := by rw [ef8, List.length_append]
  have gf8 : ¬ (9223372036854775807 : Int) < (f7.length : Int) + (sR.length : Int) := by (try simp only [List.length_cons, List.length_nil] at *); omega
  have kf8 : ¬ 9223372036854775807 < (f7.length) + (sR.length) := by (try simp only [List.length_cons, List.length_nil] at *); omega
  obtain ⟨f9, ef9⟩ : ∃ f, f = f8 ++ ([10] : Bts) := ⟨_, rfl⟩
  have sf9 : bs f8 ++ (⟨#[10]⟩ : ByteArray) = bs f9 := by rw [ef9]; apply ByteArray.ext; simp [bs]
  have zf9 : (bs f9).size = f9.length := bs_size _
  have nf9 : f9.length = f8.length + ([10] : Bts).length := by rw [ef9, List.length_append]
  have gf9 : ¬ (9223372036854775807 : Int) < (f8.length : Int) + 1 := by (try simp only [List.length_cons, List.length_nil] at *); omega
  have kf9 : ¬ 9223372036854775807 < (f8.length) + 1 := by (try simp only [List.length_cons, List.length_nil] at *); omega
  have hS2 : Hid (rowL pl e = f9) := by show _ = _; rw [hS.out]; rw [ef9]; rw [ef8]; rw [ef7]; rw [ef6]; rw [ef5]; rw [ef4]; rw [ef3]; rw [ef2]; rw [ef1]
  clear ef1 nf1 ef2 nf2 ef3 nf3 ef4 nf4 ef5 nf5 ef6 nf6 ef7 nf7 ef8 nf8 ef9 nf9 hS eD eP eN eY eR l1 l2 l3 l4 l5
  go_enter Tryd.func29, Tryd.ntmps29
  go_upto_region 1 with fail
  obtain ⟨W, hW⟩ : ∃ W, W = (w.alloc (.cells #[.string X.nm, .slice X.a1 X.l1 X.c1, .int .i64 X.cl, .slice X.P pl.length X.cP, .slice X.a4 X.l4 X.c4, .slice X.a5 X.l5 X.c5, .slice X.a6 X.l6 X.c6, .slice X.a7 X.l7 X.c7, .slice X.a8 X.l8 X.c8, .slice X.a9 X.l9 X.c9, .int .i64 X.er] 31)).alloc (.cells #[.int .i64 e.day, .int .i64 e.known, .int .i64 e.owner, .int .i64 e.place, .int .i64 e.litres, .int .i64 e.why, .int .i64 e.ref] 34) := ⟨_, rfl⟩
  rw [← hW]
  have hbW : Below N w W := by rw [hW, ← hNN]; exact ((Below.refl _ _).alloc (Nat.le_refl _) _).alloc (by simp) _
  have b1 : W.heap[N]? = some (basO X X.a1 X.l1 pl.length) := by rw [hW, Below.heap_alloc _ _ _ (by simp; omega), ← hNN]; exact heap_alloc_new _ _
  have b2 : W.heap[N + 1]? = some (.cells e.cells.toArray 34 (0, 0)) := by
    rw [hW]
    have := heap_alloc_new (w.alloc (.cells #[.string X.nm, .slice X.a1 X.l1 X.c1, .int .i64 X.cl, .slice X.P pl.length X.cP, .slice X.a4 X.l4 X.c4, .slice X.a5 X.l5 X.c5, .slice X.a6 X.l6 X.c6, .slice X.a7 X.l7 X.c7, .slice X.a8 X.l8 X.c8, .slice X.a9 X.l9 X.c9, .int .i64 X.er] 31)) (.cells #[.int .i64 e.day, .int .i64 e.known, .int .i64 e.owner, .int .i64 e.place, .int .i64 e.litres, .int .i64 e.why, .int .i64 e.ref] 34)
    rw [World.size_alloc, hNN] at this
    exact this
  have zW : N + 1 < W.heap.size := by rw [hW]; simp; omega
  have hTW : Tabs W := hT.below (by have := hT.size; omega) hbW (by omega)
  have hN3 : 3 ≤ N := by have := hT.size; omega
  clear hW
  refine Plan.wp_region_treeS (fun wx => wx.heap[N]? = some (basO X X.a1 X.l1 pl.length) ∧ wx.heap[N + 1]? = some (.cells e.cells.toArray 34 (0, 0))) (.rd 0 (.rd 1 (.rd 4 (.rd 5 (.rd 6 (.rd 10 (.rd 11 (.rd 15 (.rd 16 (.rd 20 (.rd 21 (.wr 2 (.rd 3 (.wr 7 (.rd 8 (.rd 9 (.wr 12 (.rd 13 (.rd 14 (.wr 17 (.rd 18 (.rd 19 (.wr 22 (.rd 23 (.rd 24 (.rd 25 .done)))))))))))))))))))))))))) (by kernel_rfl) (by kernel_rfl) ⟨b1, b2⟩ ?_
  (repeat (first | (refine Plan.tree_read (v := ?_) rfl rfl ?_ ?_; rotate_left; (focus ((intro wS hSw; have hSx := cells11 hSw; go_simp); try with_reducible rfl)); simp only [Act.put, List.setIfInBounds_toArray, List.set_cons_zero, List.set_cons_succ]) | (refine Plan.tree_skip rfl rfl ?_; simp only [Act.put, List.setIfInBounds_toArray, List.set_cons_zero, List.set_cons_succ])))
  (refine Plan.tree_write rfl (fun K hK => ?_); try go_simp)
  go_at_call 46
  refine (KD.out W.drew (hTW.drewN 1)).mono ?_
  rintro x1 w1 ⟨rfl, hb1⟩
  replace hb1 : Below W.heap.size W w1 := (Below.refl _ _).drew.trans hb1
  have z1 : N + 1 < w1.heap.size := Nat.lt_of_lt_of_le zW hb1.size
  have y1 : Below N w w1 := hbW.trans (hb1.mono (by omega))
  have t1 : Tabs w1 := hTW.below hTW.size hb1 hb1.size
  have c1 := (hb1.block N (by omega)).trans b1
  have d1 := (hb1.block (N + 1) zW).trans b2
  (refine hK.out _ _ (⟨c1, d1⟩) ?_; clear hK K; try simp only [Act.put, List.setIfInBounds_toArray, List.set_cons_zero, List.set_cons_succ])
  (repeat (first | (refine Plan.tree_read (v := ?_) rfl rfl ?_ ?_; rotate_left; (focus ((intro wS hSw; have hSx := cells11 hSw; go_simp); try with_reducible rfl)); simp only [Act.put, List.setIfInBounds_toArray, List.set_cons_zero, List.set_cons_succ]) | (refine Plan.tree_skip rfl rfl ?_; simp only [Act.put, List.setIfInBounds_toArray, List.set_cons_zero, List.set_cons_succ])))
  (refine Plan.tree_write rfl (fun K hK => ?_); try go_simp)
  go_at_call 53
  refine (KP.out w1 (by omega) y1).mono ?_
  rintro x2 w2 ⟨rfl, hb2⟩
  have z2 : N + 1 < w2.heap.size := Nat.lt_of_lt_of_le z1 hb2.size
  have y2 : Below N w w2 := y1.trans (hb2.mono (by omega))
  have t2 : Tabs w2 := t1.below t1.size hb2 hb2.size
  have c2 := (hb2.block N (by omega)).trans c1
  have d2 := (hb2.block (N + 1) z1).trans d1
  (refine hK.out _ _ (⟨c2, d2⟩) ?_; clear hK K; try simp only [Act.put, List.setIfInBounds_toArray, List.set_cons_zero, List.set_cons_succ])
  (repeat (first | (refine Plan.tree_read (v := ?_) rfl rfl ?_ ?_; rotate_left; (focus ((intro wS hSw; have hSx := cells11 hSw; go_simp); try with_reducible rfl)); simp only [Act.put, List.setIfInBounds_toArray, List.set_cons_zero, List.set_cons_succ]) | (refine Plan.tree_skip rfl rfl ?_; simp only [Act.put, List.setIfInBounds_toArray, List.set_cons_zero, List.set_cons_succ])))
  (refine Plan.tree_write rfl (fun K hK => ?_); try go_simp)
  go_at_call 28
  refine (KN.out w2).mono ?_
  rintro x3 w3 ⟨rfl, hb3⟩
  have z3 : N + 1 < w3.heap.size := Nat.lt_of_lt_of_le z2 hb3.size
  have y3 : Below N w w3 := y2.trans (hb3.mono (by omega))
  have t3 : Tabs w3 := t2.below t2.size hb3 hb3.size
  have c3 := (hb3.block N (by omega)).trans c2
  have d3 := (hb3.block (N + 1) z2).trans d2
  (refine hK.out _ _ (⟨c3, d3⟩) ?_; clear hK K; try simp only [Act.put, List.setIfInBounds_toArray, List.set_cons_zero, List.set_cons_succ])
  (repeat (first | (refine Plan.tree_read (v := ?_) rfl rfl ?_ ?_; rotate_left; (focus ((intro wS hSw; have hSx := cells11 hSw; go_simp); try with_reducible rfl)); simp only [Act.put, List.setIfInBounds_toArray, List.set_cons_zero, List.set_cons_succ]) | (refine Plan.tree_skip rfl rfl ?_; simp only [Act.put, List.setIfInBounds_toArray, List.set_cons_zero, List.set_cons_succ])))
  (refine Plan.tree_write rfl (fun K hK => ?_); try go_simp)
  go_at_call 54
  refine (KY.out w3).mono ?_
  rintro x4 w4 ⟨rfl, hb4⟩
  have z4 : N + 1 < w4.heap.size := Nat.lt_of_lt_of_le z3 hb4.size
  have y4 : Below N w w4 := y3.trans (hb4.mono (by omega))
  have t4 : Tabs w4 := t3.below t3.size hb4 hb4.size
  have c4 := (hb4.block N (by omega)).trans c3
  have d4 := (hb4.block (N + 1) z3).trans d3
  (refine hK.out _ _ (⟨c4, d4⟩) ?_; clear hK K; try simp only [Act.put, List.setIfInBounds_toArray, List.set_cons_zero, List.set_cons_succ])
  (repeat (first | (refine Plan.tree_read (v := ?_) rfl rfl ?_ ?_; rotate_left; (focus ((intro wS hSw; have hSx := cells11 hSw; go_simp); try with_reducible rfl)); simp only [Act.put, List.setIfInBounds_toArray, List.set_cons_zero, List.set_cons_succ]) | (refine Plan.tree_skip rfl rfl ?_; simp only [Act.put, List.setIfInBounds_toArray, List.set_cons_zero, List.set_cons_succ])))
  (refine Plan.tree_write rfl (fun K hK => ?_); try go_simp)
  go_at_call 28
  refine (KR.out w4).mono ?_
  rintro x5 w5 ⟨rfl, hb5⟩
  have z5 : N + 1 < w5.heap.size := Nat.lt_of_lt_of_le z4 hb5.size
  have y5 : Below N w w5 := y4.trans (hb5.mono (by omega))
  have t5 : Tabs w5 := t4.below t4.size hb5 hb5.size
  have c5 := (hb5.block N (by omega)).trans c4
  have d5 := (hb5.block (N + 1) z4).trans d4
  (refine hK.out _ _ (⟨c5, d5⟩) ?_; clear hK K; try simp only [Act.put, List.setIfInBounds_toArray, List.set_cons_zero, List.set_cons_succ])
  (repeat (first | (refine Plan.tree_read (v := ?_) rfl rfl ?_ ?_; rotate_left; (focus ((intro wS hSw; have hSx := cells11 hSw; go_simp); try with_reducible rfl)); simp only [Act.put, List.setIfInBounds_toArray, List.set_cons_zero, List.set_cons_succ]) | (refine Plan.tree_skip rfl rfl ?_; simp only [Act.put, List.setIfInBounds_toArray, List.set_cons_zero, List.set_cons_succ])))
  refine Plan.tree_done ?_
  go_wp2_with fail
  go_ret
  rw [hS2.out]
  exact ⟨rfl, by first | exact y5 | (rw [hNN]; exact y5)⟩
theorem rstmt_no (X : Bas) (pl ow : List Bts) (l : List Et) (C : Option Addr) (cc : Nat) (owner fr un known : Int) (w : World) (hX : X.l1 = ow.length) (h : owner < 0 ∨ (ow.length : Int) ≤ owner ∨ known < 0 ∨ 16777216 < known ∨ fr < 0 ∨ un < fr ∨ 699050 < un) :
    Calls Tryd.prog 22 #[.agg #[.string X.nm, .slice X.a1 X.l1 X.c1, .int .i64 X.cl, .slice X.P pl.length X.cP, .slice X.a4 X.l4 X.c4, .slice X.a5 X.l5 X.c5, .slice X.a6 X.l6 X.c6, .slice X.a7 X.l7 X.c7, .slice X.a8 X.l8 X.c8, .slice X.a9 X.l9 X.c9, .int .i64 X.er], .slice C l.length cc, .int .i64 owner, .int .i64 fr, .int .i64 un, .int .i64 known] w fun e w' => e = .returned (.string (bs [])) ∧ Below w.heap.size w w' := by
  rw [hX]
  obtain ⟨no, hno⟩ : ∃ n, ow.length = n := ⟨_, rfl⟩
  rw [hno] at h ⊢
  by_cases g1 : owner < 0
  · go_enter Tryd.func22, Tryd.ntmps22
    go_wp2_with fail
    go_ret
    exact ⟨rfl, below_new _ _⟩
  by_cases g2 : (no : Int) ≤ owner
  · go_enter Tryd.func22, Tryd.ntmps22
    go_wp2_with fail
    go_ret
    exact ⟨rfl, below_new _ _⟩
  by_cases g3 : known < 0
  · go_enter Tryd.func22, Tryd.ntmps22
    go_wp2_with fail
    go_ret
    exact ⟨rfl, below_new _ _⟩
  by_cases g4 : 16777216 < known
  · go_enter Tryd.func22, Tryd.ntmps22
    go_wp2_with fail
    go_ret
    exact ⟨rfl, below_new _ _⟩
  by_cases g5 : fr < 0
  · go_enter Tryd.func22, Tryd.ntmps22
    go_wp2_with fail
    go_ret
    exact ⟨rfl, below_new _ _⟩
  by_cases g6 : un < fr
  · go_enter Tryd.func22, Tryd.ntmps22
    go_wp2_with fail
    go_ret
    exact ⟨rfl, below_new _ _⟩
  by_cases g7 : 699050 < un
  · go_enter Tryd.func22, Tryd.ntmps22
    go_wp2_with fail
    go_ret
    exact ⟨rfl, below_new _ _⟩
  omega
set_option maxRecDepth 100000 in
set_option maxHeartbeats 8000000 in
theorem rstmt_yes (X : Bas) (pl ow : List Bts) (l : List Et) (C : Option Addr) (cc : Nat) (owner fr un known : Int) (w : World) (hT : Tabs w) (hX : X.l1 = ow.length) (hO : StrsAt w w.heap.size X.a1 ow) (hN : NamesAt w w.heap.size X.P pl) (hC : EntsAt w w.heap.size C l)
    (h : ¬ (owner < 0 ∨ (ow.length : Int) ≤ owner ∨ known < 0 ∨ 16777216 < known ∨ fr < 0 ∨ un < fr ∨ 699050 < un)) (hl : l.length ≤ 200000) (hI : LitsIn l) (hR : RefsIn l) (hpl : pl.length ≤ 9223372036854775807) (ho1 : Hid (∀ x ∈ ow, x.length ≤ 1100000)) (hp1 : Hid (∀ x ∈ pl, x.length ≤ 1100000)) :
    Calls Tryd.prog 22 #[.agg #[.string X.nm, .slice X.a1 X.l1 X.c1, .int .i64 X.cl, .slice X.P pl.length X.cP, .slice X.a4 X.l4 X.c4, .slice X.a5 X.l5 X.c5, .slice X.a6 X.l6 X.c6, .slice X.a7 X.l7 X.c7, .slice X.a8 X.l8 X.c8, .slice X.a9 X.l9 X.c9, .int .i64 X.er], .slice C l.length cc, .int .i64 owner, .int .i64 fr, .int .i64 un, .int .i64 known] w fun e w' => e = .returned (.string (bs (stmtL ow pl l owner fr un known))) ∧ Below w.heap.size w w' := by
  have hS : Hid (stmtL ow pl l owner fr un known = headL ow owner fr un known ++ lineL [wOpe, sgnL (account l owner (-1) (fr - 1) known)] ++ (linesR l owner fr un known).flatMap (rowL pl) ++ lineL [wClo, sgnL (account l owner (-1) un known)]) := by
    show _ = _; unfold stmtL; rw [if_neg h]
  rw [hX]
  obtain ⟨no, hno⟩ : ∃ n, ow.length = n := ⟨_, rfl⟩
  rw [hno] at h ⊢
  have g1 : ¬ owner < 0 := by omega
  have g2 : ¬ (no : Int) ≤ owner := by omega
  have g3 : ¬ known < 0 := by omega
  have g4 : ¬ 16777216 < known := by omega
  have g5 : ¬ fr < 0 := by omega
  have g6 : ¬ un < fr := by omega
  have g7 : ¬ 699050 < un := by omega
  obtain ⟨k, rfl⟩ : ∃ k : Nat, owner = k := ⟨owner.toNat, by omega⟩
  have hkn : k < no := by omega
  obtain ⟨nm, hnm⟩ : ∃ x, ow[k]? = some x := ⟨_, List.getElem?_eq_getElem (by omega)⟩
  obtain ⟨ob, oo, e1, hob, hoc⟩ := hO.at_ hnm
  have hnl := ho1.out nm (List.mem_of_getElem? hnm)
  have hHd : Hid (headL ow k fr un known = lineL [wAcc, nm, dayL fr, dayL un, wKno, textR known]) := by
    show _ = _; unfold headL; rw [Int.toNat_natCast, List.getD_eq_getElem?_getD, hnm]; rfl
  obtain ⟨N, hNN⟩ : ∃ N, w.heap.size = N := ⟨_, rfl⟩
  rw [e1]
  clear h hnm hno hX
  have q1 := dayL_len fr
  have q2 := dayL_len un
  have q3 := textL_len known
  have KF := Lib.hid (fun (wx : World) (hx : Tabs wx) => rday_any fr wx hx (by omega) (by omega))
  have KU := Lib.hid (fun (wx : World) (hx : Tabs wx) => rday_any un wx hx (by omega) (by omega))
  have KT := Lib.hid (fun (wx : World) (hx : Tabs wx) => rtext_any known wx hx)
  obtain ⟨sF, eF⟩ : ∃ s, dayL fr = s := ⟨_, rfl⟩
  obtain ⟨sU, eU⟩ : ∃ s, dayL un = s := ⟨_, rfl⟩
  obtain ⟨sT, eT⟩ : ∃ s, textR known = s := ⟨_, rfl⟩
  replace hHd : Hid (headL ow k fr un known = [97, 99, 99, 111, 117, 110, 116, 32] ++ nm ++ [32] ++ dayL fr ++ [32] ++ dayL un ++ [32, 107, 110, 111, 119, 110, 32] ++ textR known ++ [10]) := by show _ = _; rw [hHd.out]; exact head_sum _ _ _ _
  rw [eF] at KF q1
  rw [eU] at KU q2
  rw [eT] at KT q3
  rw [eF, eU, eT] at hHd
  have zF : (bs sF).size = sF.length := bs_size _
  have zU : (bs sU).size = sU.length := bs_size _
  have zT : (bs sT).size = sT.length := bs_size _
  have znm : (bs nm).size = nm.length := bs_size _
  obtain ⟨h1, eh1⟩ : ∃ f, f = ([97, 99, 99, 111, 117, 110, 116, 32] : Bts) ++ nm := ⟨_, rfl⟩
  have sh1 : (⟨#[97, 99, 99, 111, 117, 110, 116, 32]⟩ : ByteArray) ++ bs nm = bs h1 := by rw [eh1]; apply ByteArray.ext; simp [bs]
  have zh1 : (bs h1).size = h1.length := bs_size _
  have nh1 : h1.length = ([97, 99, 99, 111, 117, 110, 116, 32] : Bts).length + nm.length := by rw [eh1, List.length_append]
  have gh1 : ¬ (9223372036854775807 : Int) < 8 + (nm.length : Int) := by (try simp only [List.length_cons, List.length_nil] at *); omega
  have kh1 : ¬ 9223372036854775807 < 8 + (nm.length) := by (try simp only [List.length_cons, List.length_nil] at *); omega
  obtain ⟨h2, eh2⟩ : ∃ f, f = h1 ++ ([32] : Bts) := ⟨_, rfl⟩
  have sh2 : bs h1 ++ (⟨#[32]⟩ : ByteArray) = bs h2 := by rw [eh2]; apply ByteArray.ext; simp [bs]
  have zh2 : (bs h2).size = h2.length := bs_size _
  have nh2 : h2.length = h1.length + ([32] : Bts).length := by rw [eh2, List.length_append]
  have gh2 : ¬ (9223372036854775807 : Int) < (h1.length : Int) + 1 := by (try simp only [List.length_cons, List.length_nil] at *); omega
  have kh2 : ¬ 9223372036854775807 < (h1.length) + 1 := by (try simp only [List.length_cons, List.length_nil] at *); omega
  obtain ⟨h3, eh3⟩ : ∃ f, f = h2 ++ sF := ⟨_, rfl⟩
  have sh3 : bs h2 ++ bs sF = bs h3 := by rw [eh3]; apply ByteArray.ext; simp [bs]
  have zh3 : (bs h3).size = h3.length := bs_size _
  have nh3 : h3.length = h2.length + sF.length := by rw [eh3, List.length_append]
  have gh3 : ¬ (9223372036854775807 : Int) < (h2.length : Int) + (sF.length : Int) := by (try simp only [List.length_cons, List.length_nil] at *); omega
  have kh3 : ¬ 9223372036854775807 < (h2.length) + (sF.length) := by (try simp only [List.length_cons, List.length_nil] at *); omega
  obtain ⟨h4, eh4⟩ : ∃ f, f = h3 ++ ([32] : Bts) := ⟨_, rfl⟩
  have sh4 : bs h3 ++ (⟨#[32]⟩ : ByteArray) = bs h4 := by rw [eh4]; apply ByteArray.ext; simp [bs]
  have zh4 : (bs h4).size = h4.length := bs_size _
  have nh4 : h4.length = h3.length + ([32] : Bts).length := by rw [eh4, List.length_append]
  have gh4 : ¬ (9223372036854775807 : Int) < (h3.length : Int) + 1 := by (try simp only [List.length_cons, List.length_nil] at *); omega
  have kh4 : ¬ 9223372036854775807 < (h3.length) + 1 := by (try simp only [List.length_cons, List.length_nil] at *); omega
  obtain ⟨h5, eh5⟩ : ∃ f, f = h4 ++ sU := ⟨_, rfl⟩
  have sh5 : bs h4 ++ bs sU = bs h5 := by rw [eh5]; apply ByteArray.ext; simp [bs]
  have zh5 : (bs h5).size = h5.length := bs_size _
  have nh5 : h5.length = h4.length + sU.length := by rw [eh5, List.length_append]
  have gh5 : ¬ (9223372036854775807 : Int) < (h4.length : Int) + (sU.length : Int) := by (try simp only [List.length_cons, List.length_nil] at *); omega
  have kh5 : ¬ 9223372036854775807 < (h4.length) + (sU.length) := by (try simp only [List.length_cons, List.length_nil] at *); omega
  obtain ⟨h6, eh6⟩ : ∃ f, f = h5 ++ ([32, 107, 110, 111, 119, 110, 32] : Bts) := ⟨_, rfl⟩
  have sh6 : bs h5 ++ (⟨#[32, 107, 110, 111, 119, 110, 32]⟩ : ByteArray) = bs h6 := by rw [eh6]; apply ByteArray.ext; simp [bs]
  have zh6 : (bs h6).size = h6.length := bs_size _
  have nh6 : h6.length = h5.length + ([32, 107, 110, 111, 119, 110, 32] : Bts).length := by rw [eh6, List.length_append]
  have gh6 : ¬ (9223372036854775807 : Int) < (h5.length : Int) + 7 := by (try simp only [List.length_cons, List.length_nil] at *); omega
  have kh6 : ¬ 9223372036854775807 < (h5.length) + 7 := by (try simp only [List.length_cons, List.length_nil] at *); omega
  obtain ⟨h7, eh7⟩ : ∃ f, f = h6 ++ sT := ⟨_, rfl⟩
  have sh7 : bs h6 ++ bs sT = bs h7 := by rw [eh7]; apply ByteArray.ext; simp [bs]
  have zh7 : (bs h7).size = h7.length := bs_size _
  have nh7 : h7.length = h6.length + sT.length := by rw [eh7, List.length_append]
  have gh7 : ¬ (9223372036854775807 : Int) < (h6.length : Int) + (sT.length : Int) := by (try simp only [List.length_cons, List.length_nil] at *); omega
  have kh7 : ¬ 9223372036854775807 < (h6.length) + (sT.length) := by (try simp only [List.length_cons, List.length_nil] at *); omega
  obtain ⟨h8, eh8⟩ : ∃ f, f = h7 ++ ([10] : Bts) := ⟨_, rfl⟩
  have sh8 : bs h7 ++ (⟨#[10]⟩ : ByteArray) = bs h8 := by rw [eh8]; apply ByteArray.ext; simp [bs]
  have zh8 : (bs h8).size = h8.length := bs_size _
  have nh8 : h8.length = h7.length + ([10] : Bts).length := by rw [eh8, List.length_append]
  have gh8 : ¬ (9223372036854775807 : Int) < (h7.length : Int) + 1 := by (try simp only [List.length_cons, List.length_nil] at *); omega
  have kh8 : ¬ 9223372036854775807 < (h7.length) + 1 := by (try simp only [List.length_cons, List.length_nil] at *); omega
  have hHd2 : Hid (headL ow k fr un known = h8) := by show _ = _; rw [hHd.out]; rw [eh8]; rw [eh7]; rw [eh6]; rw [eh5]; rw [eh4]; rw [eh3]; rw [eh2]; rw [eh1]
  have htl1 : h8.length ≤ 1200000 := by (try simp only [List.length_cons, List.length_nil] at *); omega
  rw [hHd2.out] at hS
  clear eh1 nh1 eh2 nh2 eh3 nh3 eh4 nh4 eh5 nh5 eh6 nh6 eh7 nh7 eh8 nh8 hHd hHd2 eF eU eT q1 q2 q3
  go_enter Tryd.func22, Tryd.ntmps22
  go_upto_region 3 with fail
  obtain ⟨W, hW0⟩ : ∃ W, W = w.alloc (.cells #[.string X.nm, .slice (some ⟨ob, oo, none⟩) no X.c1, .int .i64 X.cl, .slice X.P pl.length X.cP, .slice X.a4 X.l4 X.c4, .slice X.a5 X.l5 X.c5, .slice X.a6 X.l6 X.c6, .slice X.a7 X.l7 X.c7, .slice X.a8 X.l8 X.c8, .slice X.a9 X.l9 X.c9, .int .i64 X.er] 31) := ⟨_, rfl⟩
  rw [← hW0]
  have b0 : Below N w W := by rw [hW0, ← hNN]; exact (Below.refl _ _).alloc (Nat.le_refl _) _
  have x0 : W.heap[N]? = some (basO X (some ⟨ob, oo, none⟩) no pl.length) := by rw [hW0, ← hNN]; exact heap_alloc_new _ _
  have z0 : N < W.heap.size := by rw [hW0]; simp; omega
  have hN3 : 3 ≤ N := by have := hT.size; omega
  have t0 : Tabs W := hT.below hT.size (by rw [hNN]; exact b0) (by omega)
  clear hW0
  have hCo := Lib.hid hC
  have hNo := Lib.hid hN
  have hobN : ob < N := by omega
  have cf : Hid (∀ wx, Below N w wx → wx.heap[N]? = some (basO X (some ⟨ob, oo, none⟩) no pl.length) → (wx.cell? ⟨N, 1, none⟩ = some (.slice (some ⟨ob, oo, none⟩) no X.c1) ∧ wx.cell? ⟨ob, oo + k, none⟩ = some (.string (bs nm)))) := fun wx h1 h2 => ⟨(basO_cells h2).2.1, (h1.cell (p := ⟨ob, oo + k, none⟩) (by show ob < N; omega)).trans hoc⟩
  clear hC hN hO hoc hT
  have hk2 : (k : Int) < (no : Int) := by omega
  refine Plan.wp_region_treeS (fun wx => wx.cell? ⟨N, 1, none⟩ = some (.slice (some ⟨ob, oo, none⟩) no X.c1) ∧ wx.cell? ⟨ob, oo + k, none⟩ = some (.string (bs nm))) (.rd 0 (.rd 1 (.rd 2 (.rd 3 (.rd 4 (.rd 5 (.rd 6 (.rd 7 (.rd 11 (.rd 15 (.wr 8 (.rd 9 (.rd 10 (.wr 12 (.rd 13 (.rd 14 (.wr 16 (.rd 17 (.rd 18 (.rd 19 .done)))))))))))))))))))) (by kernel_rfl) (by kernel_rfl) (cf.out _ b0.drew x0) ?_
  (repeat (first | (refine Plan.tree_read (v := ?_) rfl rfl ?_ ?_; rotate_left; (focus ((intro wS hSw; have hSx := hSw; go_simp); try with_reducible rfl)); simp only [Act.put, List.setIfInBounds_toArray, List.set_cons_zero, List.set_cons_succ]) | (refine Plan.tree_skip rfl rfl ?_; simp only [Act.put, List.setIfInBounds_toArray, List.set_cons_zero, List.set_cons_succ])))
  (refine Plan.tree_write rfl (fun K hK => ?_); try go_simp)
  go_at_call 46
  refine (KF.out W.drew (t0.drewN 1)).mono ?_
  rintro r1 w1 ⟨rfl, hb1⟩
  replace hb1 : Below W.heap.size W w1 := (Below.refl _ _).drew.trans hb1
  have b1 : Below N w w1 := b0.trans (hb1.mono (by omega))
  have x1 := (hb1.block N z0).trans x0
  have z1 : N < w1.heap.size := Nat.lt_of_lt_of_le z0 hb1.size
  have t1 : Tabs w1 := t0.below t0.size hb1 hb1.size
  (refine hK.out _ _ (cf.out _ b1 x1) ?_; clear hK K; try simp only [Act.put, List.setIfInBounds_toArray, List.set_cons_zero, List.set_cons_succ])
  (repeat (first | (refine Plan.tree_read (v := ?_) rfl rfl ?_ ?_; rotate_left; (focus ((intro wS hSw; have hSx := hSw; go_simp); try with_reducible rfl)); simp only [Act.put, List.setIfInBounds_toArray, List.set_cons_zero, List.set_cons_succ]) | (refine Plan.tree_skip rfl rfl ?_; simp only [Act.put, List.setIfInBounds_toArray, List.set_cons_zero, List.set_cons_succ])))
  (refine Plan.tree_write rfl (fun K hK => ?_); try go_simp)
  go_at_call 46
  refine (KU.out w1 t1).mono ?_
  rintro r2 w2 ⟨rfl, hb2⟩
  have b2 : Below N w w2 := b1.trans (hb2.mono (by omega))
  have x2 := (hb2.block N z1).trans x1
  have z2 : N < w2.heap.size := Nat.lt_of_lt_of_le z1 hb2.size
  have t2 : Tabs w2 := t1.below t1.size hb2 hb2.size
  (refine hK.out _ _ (cf.out _ b2 x2) ?_; clear hK K; try simp only [Act.put, List.setIfInBounds_toArray, List.set_cons_zero, List.set_cons_succ])
  (repeat (first | (refine Plan.tree_read (v := ?_) rfl rfl ?_ ?_; rotate_left; (focus ((intro wS hSw; have hSx := hSw; go_simp); try with_reducible rfl)); simp only [Act.put, List.setIfInBounds_toArray, List.set_cons_zero, List.set_cons_succ]) | (refine Plan.tree_skip rfl rfl ?_; simp only [Act.put, List.setIfInBounds_toArray, List.set_cons_zero, List.set_cons_succ])))
  (refine Plan.tree_write rfl (fun K hK => ?_); try go_simp)
  go_at_call 47
  refine (KT.out w2 t2).mono ?_
  rintro r3 w3 ⟨rfl, hb3⟩
  have b3 : Below N w w3 := b2.trans (hb3.mono (by omega))
  have x3 := (hb3.block N z2).trans x2
  have z3 : N < w3.heap.size := Nat.lt_of_lt_of_le z2 hb3.size
  have t3 : Tabs w3 := t2.below t2.size hb3 hb3.size
  (refine hK.out _ _ (cf.out _ b3 x3) ?_; clear hK K; try simp only [Act.put, List.setIfInBounds_toArray, List.set_cons_zero, List.set_cons_succ])
  (repeat (first | (refine Plan.tree_read (v := ?_) rfl rfl ?_ ?_; rotate_left; (focus ((intro wS hSw; have hSx := hSw; go_simp); try with_reducible rfl)); simp only [Act.put, List.setIfInBounds_toArray, List.set_cons_zero, List.set_cons_succ]) | (refine Plan.tree_skip rfl rfl ?_; simp only [Act.put, List.setIfInBounds_toArray, List.set_cons_zero, List.set_cons_succ])))
  refine Plan.tree_done ?_
  clear cf KT KF KU hb1 hb2 hb3 b0 b1 b2 x0 x1 x2 z0 z1 z2 t0 t1 t2 W w1 w2 zF zU zT znm sh1 gh1 kh1 sh2 gh2 kh2 sh3 gh3 kh3 sh4 gh4 kh4 sh5 gh5 kh5 sh6 gh6 kh6 sh7 gh7 kh7 sh8 gh8 kh8 zh1 zh2 zh3 zh4 zh5 zh6 zh7
  obtain ⟨t1, ht1⟩ : ∃ t, h8 = t := ⟨_, rfl⟩
  rw [ht1] at hS htl1 zh8 ⊢
  clear ht1
  obtain ⟨a1, ha1⟩ : ∃ a, account l k (-1) (fr - 1) known = a := ⟨_, rfl⟩
  have hi1 : In64 a1 := by rw [← ha1]; exact account_in _ _ _ _ _
  obtain ⟨a2, ha2⟩ : ∃ a, account l k (-1) un known = a := ⟨_, rfl⟩
  have hi2 : In64 a2 := by rw [← ha2]; exact account_in _ _ _ _ _
  have l1 := sgnL_len a1 hi1
  have l2 := sgnL_len a2 hi2
  have hwf : IntKind.i64.wrap (fr - 1) = fr - 1 := by rw [IntKind.wrap_i64]; omega
  have KA := Lib.hid (fun (day : Int) (wx : World) (hz : N ≤ wx.heap.size) (hb : Below N w wx) => rat_any l C cc k (-1) day known wx (EntsAt.below (by have := hCo.out; rw [hNN] at this; exact this) hb) hz (by omega) hI)
  have KA1 := KA.out (fr - 1) w3 (by omega) b3
  rw [ha1] at KA1
  replace KA1 := Lib.hid KA1
  have KG1 := Lib.hid (fun (wx : World) => rnum_any a1 wx hi1.1 hi1.2)
  have KG2 := Lib.hid (fun (wx : World) => rnum_any a2 wx hi2.1 hi2.2)
  rw [ha1, ha2, ope_sum, clo_sum] at hS
  obtain ⟨sA, eA⟩ : ∃ s, sgnL a1 = s := ⟨_, rfl⟩
  obtain ⟨sB, eB⟩ : ∃ s, sgnL a2 = s := ⟨_, rfl⟩
  rw [eA] at KG1 l1 hS
  rw [eB] at KG2 l2 hS
  have zA : (bs sA).size = sA.length := bs_size _
  have zB : (bs sB).size = sB.length := bs_size _
  obtain ⟨o1, eo1⟩ : ∃ f, f = t1 ++ ([111, 112, 101, 110, 105, 110, 103, 32] : Bts) := ⟨_, rfl⟩
  have so1 : bs t1 ++ (⟨#[111, 112, 101, 110, 105, 110, 103, 32]⟩ : ByteArray) = bs o1 := by rw [eo1]; apply ByteArray.ext; simp [bs]
  have zo1 : (bs o1).size = o1.length := bs_size _
  have no1 : o1.length = t1.length + ([111, 112, 101, 110, 105, 110, 103, 32] : Bts).length := by rw [eo1, List.length_append]
  have go1 : ¬ (9223372036854775807 : Int) < (t1.length : Int) + 8 := by (try simp only [List.length_cons, List.length_nil] at *); omega
  have ko1 : ¬ 9223372036854775807 < (t1.length) + 8 := by (try simp only [List.length_cons, List.length_nil] at *); omega
  obtain ⟨o2, eo2⟩ : ∃ f, f = o1 ++ sA := ⟨_, rfl⟩
  have so2 : bs o1 ++ bs sA = bs o2 := by rw [eo2]; apply ByteArray.ext; simp [bs]
  have zo2 : (bs o2).size = o2.length := bs_size _
  have no2 : o2.length = o1.length + sA.length := by rw [eo2, List.length_append]
  have go2 : ¬ (9223372036854775807 : Int) < (o1.length : Int) + (sA.length : Int) := by (try simp only [List.length_cons, List.length_nil] at *); omega
  have ko2 : ¬ 9223372036854775807 < (o1.length) + (sA.length) := by (try simp only [List.length_cons, List.length_nil] at *); omega
  obtain ⟨o3, eo3⟩ : ∃ f, f = o2 ++ ([10] : Bts) := ⟨_, rfl⟩
  have so3 : bs o2 ++ (⟨#[10]⟩ : ByteArray) = bs o3 := by rw [eo3]; apply ByteArray.ext; simp [bs]
  have zo3 : (bs o3).size = o3.length := bs_size _
  have no3 : o3.length = o2.length + ([10] : Bts).length := by rw [eo3, List.length_append]
  have go3 : ¬ (9223372036854775807 : Int) < (o2.length : Int) + 1 := by (try simp only [List.length_cons, List.length_nil] at *); omega
  have ko3 : ¬ 9223372036854775807 < (o2.length) + 1 := by (try simp only [List.length_cons, List.length_nil] at *); omega
  have hO2 : Hid (t1 ++ ([111, 112, 101, 110, 105, 110, 103, 32] ++ sA ++ [10]) = o3) := by show _ = _; rw [eo3]; rw [eo2]; rw [eo1]; simp
  have hol : o3.length ≤ 1300000 := by (try simp only [List.length_cons, List.length_nil] at *); omega
  rw [hO2.out] at hS
  clear eo1 no1 eo2 no2 eo3 no3 hO2 eA eB l1 htl1
  obtain ⟨L, hL⟩ : ∃ L, linesR l k fr un known = L := ⟨_, rfl⟩
  rw [hL] at hS
  have KLn := fun (wx : World) (hz : N ≤ wx.heap.size) (hb : Below N w wx) => rlines_any l C cc k fr un known wx (EntsAt.below (by have := hCo.out; rw [hNN] at this; exact this) hb) hz (by omega)
  rw [hL] at KLn
  replace KLn := Lib.hid KLn
  have hLm : Hid (∀ e ∈ L, In64 e.litres ∧ In64 e.ref ∧ 0 ≤ e.day ∧ e.day ≤ 699050) := fun e he => by
    rw [← hL] at he
    obtain ⟨q1, q2, q3⟩ := lines_mem he
    exact ⟨hI e q1, hR e q1, by omega, by omega⟩
  have hLl : L.length ≤ 200000 := by
    rw [← hL]; unfold linesR; rw [insSort_len]
    exact Nat.le_trans (List.length_filter_le _ _) hl
  clear hL ha1
  have ha2x : Hid (account l k (-1) un known = a2) := ha2
  clear ha2
  go_wp2_with (first | (go_at_call 21; refine KA1.out.mono ?_; rintro e4 w4 ⟨rfl, hb4⟩; have b4 : Below N w w4 := b3.trans (hb4.mono (by omega)); have x4 := (hb4.block N z3).trans x3; have z4 : N < w4.heap.size := Nat.lt_of_lt_of_le z3 hb4.size; have t4 : Tabs w4 := t3.below t3.size hb4 hb4.size) | (go_at_call 28; refine (KG1.out w4).mono ?_; rintro e5 w5 ⟨rfl, hb5⟩; have b5 : Below N w w5 := b4.trans (hb5.mono (by omega)); have x5 := (hb5.block N z4).trans x4; have z5 : N < w5.heap.size := Nat.lt_of_lt_of_le z4 hb5.size; have t5 : Tabs w5 := t4.below t4.size hb5 hb5.size) | (go_at_call 48; refine (KLn.out w5 (by omega) b5).mono ?_; rintro e6 w6 ⟨D, dc, rfl, hcap, hE, hb6⟩; have b6 : Below N w w6 := b5.trans (hb6.mono (by omega)); have x6 := (hb6.block N z5).trans x5; have z6 : N < w6.heap.size := Nat.lt_of_lt_of_le z5 hb6.size; have t6 : Tabs w6 := t5.below t5.size hb6 hb6.size) | fail)
  clear KA1 KG1 KLn hb4 hb5 hb6 b3 b4 b5 x3 x4 x5 z3 z4 z5 t3 t4 t5 so1 go1 ko1 so2 go2 ko2 so3 go3 ko3 zo1 zo2 zA hwf
  obtain ⟨tx, htx⟩ : ∃ t, o3 = t := ⟨_, rfl⟩
  rw [htx] at hS hol zo3 ⊢
  clear htx
  obtain ⟨Lf, hLf⟩ : ∃ f : Nat → Bts, f = fun j => (L.take j).flatMap (rowL pl) := ⟨_, rfl⟩
  have hL0 : Hid (Lf 0 = []) := by show _ = _; rw [hLf]; rfl
  have hLs : Hid (∀ j e, L[j]? = some e → Lf (j + 1) = Lf j ++ rowL pl e) := fun j e h => by
    rw [hLf]; simp only [List.take_add_one, h, List.flatMap_append]; simp
  have hLe : Hid ((L.flatMap (rowL pl)) = Lf L.length) := by show _ = _; rw [hLf]; simp
  rw [hLe.out] at hS
  clear hLf hLe
  replace hE := Lib.hid hE
  go_loopw [13, 15] (fun u13 u15 wr => ∃ (j : Nat) (tj : Bts), j ≤ L.length ∧ u15 = .int .i64 j ∧ u13 = .string (bs tj) ∧ Hid (tj = tx ++ Lf j) ∧ tj.length ≤ 1300000 + j * 1100100 ∧ Below w6.heap.size w6 wr ∧ w6.heap.size ≤ wr.heap.size) (fun _ u15 _ => L.length - (intOf u15).toNat)
  case atStart => exact ⟨0, tx, Nat.zero_le _, rfl, rfl, by show _ = _; rw [hL0.out, List.append_nil], by omega, Below.refl _ _, Nat.le_refl _⟩
  case round =>
    obtain ⟨j, tj, hj, rfl, rfl, htj, hlj, hbr, hzr⟩ := hrel
    have zj : (bs tj).size = tj.length := bs_size _
    have hlj2 : tj.length ≤ 300000000000 := Nat.le_trans hlj (by have : j * 1100100 ≤ 200000 * 1100100 := Nat.mul_le_mul_right _ (by omega); omega)
    have br : Below N w wr := b6.trans (hbr.mono (by omega))
    have xr := (hbr.block N z6).trans x6
    have zr : N < wr.heap.size := Nat.lt_of_lt_of_le z6 hzr
    have tr : Tabs wr := t6.below t6.size hbr hzr
    by_cases hlt : j < L.length
    · obtain ⟨e, hx⟩ : ∃ e, L[j]? = some e := ⟨_, List.getElem?_eq_getElem hlt⟩
      obtain ⟨b, off, hDb, hb, r0, r1, r2, r3, r4, r5, r6⟩ := (EntsAt.below hE.out hbr).at_ hx
      subst hDb
      obtain ⟨i1, i2, i3, i4⟩ := hLm.out e (List.mem_of_getElem? hx)
      have hstep := Lib.hid (hLs.out j e hx)
      have hbw : b < wr.heap.size := by omega
      clear hx
      have hrl : (rowL pl e).length ≤ 1100100 := by
        have h2 := dayL_len e.day
        have h3 := placeL_len hp1.out e.place
        have h4 := sgnL_len e.litres i1
        have h5 := whyL_len e.why
        have h6 := sgnL_len e.ref i2
        unfold rowL
        rw [row_sum]
        simp
        omega
      have KL := rline_any ⟨X.nm, some ⟨ob, oo, none⟩, no, X.c1, X.cl, X.P, X.cP, X.a4, X.l4, X.c4, X.a5, X.l5, X.c5, X.a6, X.l6, X.c6, X.a7, X.l7, X.c7, X.a8, X.l8, X.c8, X.a9, X.l9, X.c9, X.er⟩ pl e wr.drew (tr.drewN 1) (NamesAt.below (by have := hNo.out; rw [hNN] at this; exact this) (br.trans (Below.refl N _).drew)) (by show N ≤ wr.heap.size; omega) i3 i4 i1 i2 hpl hp1
      dsimp only at KL
      obtain ⟨rw1, erw⟩ : ∃ r, rowL pl e = r := ⟨_, rfl⟩
      rw [erw] at KL hstep hrl
      clear erw
      have zrw : (bs rw1).size = rw1.length := bs_size _
      obtain ⟨q1, eq1⟩ : ∃ f, f = tj ++ rw1 := ⟨_, rfl⟩
      have sq1 : bs tj ++ bs rw1 = bs q1 := by rw [eq1]; apply ByteArray.ext; simp [bs]
      have zq1 : (bs q1).size = q1.length := bs_size _
      have nq1 : q1.length = tj.length + rw1.length := by rw [eq1, List.length_append]
      have gq1 : ¬ (9223372036854775807 : Int) < (tj.length : Int) + (rw1.length : Int) := by (try simp only [List.length_cons, List.length_nil] at *); omega
      have kq1 : ¬ 9223372036854775807 < (tj.length) + (rw1.length) := by (try simp only [List.length_cons, List.length_nil] at *); omega
      replace KL := Lib.hid KL
      have hq1 : q1.length ≤ 1300000 + (j + 1) * 1100100 := by rw [Nat.succ_mul]; omega
      have hqj : Hid (q1 = tx ++ Lf (j + 1)) := by show _ = _; rw [eq1, htj.out, hstep.out, List.append_assoc]
      clear eq1 nq1
      have hjL : (j : Int) < (L.length : Int) := by omega
      go_upto_region 9 with fail
      refine Plan.wp_region_treeS (fun wx => wx.heap[N]? = some (basO X (some ⟨ob, oo, none⟩) no pl.length) ∧ wx.cell? ⟨b, off + j * 7, none⟩ = some (.int .i64 e.day) ∧ wx.cell? ⟨b, off + j * 7 + 1, none⟩ = some (.int .i64 e.known) ∧ wx.cell? ⟨b, off + j * 7 + 2, none⟩ = some (.int .i64 e.owner) ∧ wx.cell? ⟨b, off + j * 7 + 3, none⟩ = some (.int .i64 e.place) ∧ wx.cell? ⟨b, off + j * 7 + 4, none⟩ = some (.int .i64 e.litres) ∧ wx.cell? ⟨b, off + j * 7 + 5, none⟩ = some (.int .i64 e.why) ∧ wx.cell? ⟨b, off + j * 7 + 6, none⟩ = some (.int .i64 e.ref)) (.rd 0 (.rd 1 (.rd 2 (.rd 3 (.rd 4 (.rd 5 (.wr 6 (.rd 7 (.rd 8 .done))))))))) (by kernel_rfl) (by kernel_rfl) ⟨xr, r0, r1, r2, r3, r4, r5, r6⟩ ?_
      (repeat (first | (refine Plan.tree_read (v := ?_) rfl rfl ?_ ?_; rotate_left; (focus ((intro wS hSw; have hSx := And.intro (basO_cells (And.left hSw)) (And.right hSw); go_simp); try with_reducible rfl)); simp only [Act.put, List.setIfInBounds_toArray, List.set_cons_zero, List.set_cons_succ]) | (refine Plan.tree_skip rfl rfl ?_; simp only [Act.put, List.setIfInBounds_toArray, List.set_cons_zero, List.set_cons_succ])))
      (refine Plan.tree_write rfl (fun K hK => ?_); try go_simp)
      go_at_call 29
      refine KL.out.mono ?_
      rintro e7 w7 ⟨rfl, hb7⟩
      replace hb7 : Below wr.heap.size wr w7 := (Below.refl _ _).drew.trans hb7
      have x7 := (hb7.block N zr).trans xr
      have ky : ∀ o, w7.cell? ⟨b, o, none⟩ = wr.cell? ⟨b, o, none⟩ := fun o => hb7.cell (p := ⟨b, o, none⟩) hbw
      have KY := Lib.hid ky
      clear ky
      (refine hK.out _ _ (⟨x7, (KY.out _).trans r0, (KY.out _).trans r1, (KY.out _).trans r2, (KY.out _).trans r3, (KY.out _).trans r4, (KY.out _).trans r5, (KY.out _).trans r6⟩) ?_; clear hK K; try simp only [Act.put, List.setIfInBounds_toArray, List.set_cons_zero, List.set_cons_succ])
      (repeat (first | (refine Plan.tree_read (v := ?_) rfl rfl ?_ ?_; rotate_left; (focus ((intro wS hSw; have hSx := And.intro (basO_cells (And.left hSw)) (And.right hSw); go_simp); try with_reducible rfl)); simp only [Act.put, List.setIfInBounds_toArray, List.set_cons_zero, List.set_cons_succ]) | (refine Plan.tree_skip rfl rfl ?_; simp only [Act.put, List.setIfInBounds_toArray, List.set_cons_zero, List.set_cons_succ])))
      refine Plan.tree_done ?_
      go_wp2_with fail
      go_roundw
      case rel => exact ⟨j + 1, q1, by omega, by go_num, rfl, hqj, hq1, hbr.trans (hb7.mono hzr), Nat.le_trans hzr hb7.size⟩
      case measure => simp [intOf]; omega
    · have hje : j = L.length := by omega
      subst hje
      have KA2 := KA.out un wr (by omega) br
      rw [ha2x.out] at KA2
      replace KA2 := Lib.hid KA2
      obtain ⟨c1, ec1⟩ : ∃ f, f = tj ++ ([99, 108, 111, 115, 105, 110, 103, 32] : Bts) := ⟨_, rfl⟩
      have sc1 : bs tj ++ (⟨#[99, 108, 111, 115, 105, 110, 103, 32]⟩ : ByteArray) = bs c1 := by rw [ec1]; apply ByteArray.ext; simp [bs]
      have zc1 : (bs c1).size = c1.length := bs_size _
      have nc1 : c1.length = tj.length + ([99, 108, 111, 115, 105, 110, 103, 32] : Bts).length := by rw [ec1, List.length_append]
      have gc1 : ¬ (9223372036854775807 : Int) < (tj.length : Int) + 8 := by (try simp only [List.length_cons, List.length_nil] at *); omega
      have kc1 : ¬ 9223372036854775807 < (tj.length) + 8 := by (try simp only [List.length_cons, List.length_nil] at *); omega
      obtain ⟨c2, ec2⟩ : ∃ f, f = c1 ++ sB := ⟨_, rfl⟩
      have sc2 : bs c1 ++ bs sB = bs c2 := by rw [ec2]; apply ByteArray.ext; simp [bs]
      have zc2 : (bs c2).size = c2.length := bs_size _
      have nc2 : c2.length = c1.length + sB.length := by rw [ec2, List.length_append]
      have gc2 : ¬ (9223372036854775807 : Int) < (c1.length : Int) + (sB.length : Int) := by (try simp only [List.length_cons, List.length_nil] at *); omega
      have kc2 : ¬ 9223372036854775807 < (c1.length) + (sB.length) := by (try simp only [List.length_cons, List.length_nil] at *); omega
      obtain ⟨c3, ec3⟩ : ∃ f, f = c2 ++ ([10] : Bts) := ⟨_, rfl⟩
      have sc3 : bs c2 ++ (⟨#[10]⟩ : ByteArray) = bs c3 := by rw [ec3]; apply ByteArray.ext; simp [bs]
      have zc3 : (bs c3).size = c3.length := bs_size _
      have nc3 : c3.length = c2.length + ([10] : Bts).length := by rw [ec3, List.length_append]
      have gc3 : ¬ (9223372036854775807 : Int) < (c2.length : Int) + 1 := by (try simp only [List.length_cons, List.length_nil] at *); omega
      have kc3 : ¬ 9223372036854775807 < (c2.length) + 1 := by (try simp only [List.length_cons, List.length_nil] at *); omega
      have hC2 : Hid (tj ++ ([99, 108, 111, 115, 105, 110, 103, 32] ++ sB ++ [10]) = c3) := by show _ = _; rw [ec3]; rw [ec2]; rw [ec1]; simp
      clear ec1 nc1 ec2 nc2 ec3 nc3
      go_wp2_with (first | (go_at_call 21; refine KA2.out.mono ?_; rintro e31 w31 ⟨rfl, hb31⟩) | (go_at_call 28; refine (KG2.out w31).mono ?_; rintro e32 w32 ⟨rfl, hb32⟩) | fail)
      go_ret
      refine ⟨by rw [hS.out, ← htj.out, hC2.out]; rfl, ?_⟩
      rw [hNN]
      exact (br.trans (hb31.mono (by omega))).trans (hb32.mono (by have := hb31.size; omega))
/-- The reference's Statement. -/
theorem rstmt_any (X : Bas) (pl ow : List Bts) (l : List Et) (C : Option Addr) (cc : Nat) (owner fr un known : Int) (w : World) (hT : Tabs w) (hX : X.l1 = ow.length) (hO : StrsAt w w.heap.size X.a1 ow) (hN : NamesAt w w.heap.size X.P pl) (hC : EntsAt w w.heap.size C l)
    (hl : l.length ≤ 200000) (hI : LitsIn l) (hR : RefsIn l) (hpl : pl.length ≤ 9223372036854775807) (ho1 : Hid (∀ x ∈ ow, x.length ≤ 1100000)) (hp1 : Hid (∀ x ∈ pl, x.length ≤ 1100000)) :
    Calls Tryd.prog 22 #[.agg #[.string X.nm, .slice X.a1 X.l1 X.c1, .int .i64 X.cl, .slice X.P pl.length X.cP, .slice X.a4 X.l4 X.c4, .slice X.a5 X.l5 X.c5, .slice X.a6 X.l6 X.c6, .slice X.a7 X.l7 X.c7, .slice X.a8 X.l8 X.c8, .slice X.a9 X.l9 X.c9, .int .i64 X.er], .slice C l.length cc, .int .i64 owner, .int .i64 fr, .int .i64 un, .int .i64 known] w fun e w' => e = .returned (.string (bs (stmtL ow pl l owner fr un known))) ∧ Below w.heap.size w w' := by
  by_cases h : owner < 0 ∨ (ow.length : Int) ≤ owner ∨ known < 0 ∨ 16777216 < known ∨ fr < 0 ∨ un < fr ∨ 699050 < un
  · have hs : stmtL ow pl l owner fr un known = [] := by unfold stmtL; rw [if_pos h]
    rw [hs]
    exact rstmt_no X pl ow l C cc owner fr un known w hX h
  · exact rstmt_yes X pl ow l C cc owner fr un known w hT hX hO hN hC h hl hI hR hpl ho1 hp1
end Go.Proofs.YtminphldifncaaaDoor

