/- WalTorn answers true for every input. -/
import Derived.Test.YtmnimcdbfolhaaaSM
set_option linter.unusedSimpArgs false
set_option linter.unusedVariables false
namespace Go.Proofs.Ytmnimcdbfolhaaa
open Go.RowKit DK
attribute [local go_sem] alloc_drewN setCell_drewN shape_drewN
def BoolIs (b : Bool) (w : World) (e : Ending) (w' : World) : Prop := e = .returned (.bool b) ∧ Below w.heap.size w w'
theorem StrsAt.on {w w' : World} {A : Option Addr} {l : List Bts} (h : StrsAt w w.heap.size A l) (hb : Below w.heap.size w w') : StrsAt w' w'.heap.size A l := CellsAt.more (h.below hb) hb.size
theorem trans2 {w w1 w2 : World} (h : Below w.heap.size w w1) (k : Below w1.heap.size w1 w2) : Below w.heap.size w w2 := h.trans (k.mono h.size)
set_option maxRecDepth 100000 in
set_option maxHeartbeats 4000000 in
theorem torn_any (A : Option Addr) (c : Nat) (l : List Bts) (cut : Int) (junk : Bts) (w : World) (hA : StrsAt w w.heap.size A l) (hl : l.length ≤ 9223372036854775807) (hS : Hid (∀ x ∈ l, x.length ≤ 140737488355328)) (hj : junk.length ≤ 9223372036854775807) (hc : cut ≤ 9223372036854775807) :
    Calls Try.prog 3 #[.slice A l.length c, .int .i64 cut, .string (bs junk)] w (BoolIs true w) := by
  have zj := bs_size junk
  go_enter Try.func3, Try.ntmps3
  go_wp2_with fail
  go_at_call 9
  refine (small_any w).mono ?_
  rintro e w1 ⟨rfl, hb1⟩
  have KB := Lib.hid (bytes_any A c l w1 (hA.on hb1) hl hS)
  by_cases g : bytesP l ≤ 1500 ∧ junk.length ≤ 50 ∧ 0 ≤ cut
  case neg =>
    obtain ⟨B, hB⟩ : ∃ B, bytesP l = B := ⟨_, rfl⟩
    rw [hB] at KB g
    clear hB
    rcases Nat.lt_or_ge 1500 B with q | q
    · have q1 : decide ((1500 : Int) < (B : Int)) = true := decide_eq_true (by omega)
      go_wp2_with (first | (go_at_call 10; refine KB.out.mono ?_; rintro e _ ⟨rfl, rfl⟩) | fail)
      go_ret
      exact ⟨rfl, hb1⟩
    · have q1 : decide ((1500 : Int) < (B : Int)) = false := decide_eq_false (by omega)
      have q0 : ¬ 1500 < B := by omega
      rcases Nat.lt_or_ge 50 junk.length with q2 | q2
      · have q3 : decide ((50 : Int) < (junk.length : Int)) = true := decide_eq_true (by omega)
        go_wp2_with (first | (go_at_call 10; refine KB.out.mono ?_; rintro e _ ⟨rfl, rfl⟩) | fail)
        go_ret
        exact ⟨rfl, hb1⟩
      · have q3 : decide ((50 : Int) < (junk.length : Int)) = false := decide_eq_false (by omega)
        have q4 : ¬ 50 < junk.length := by omega
        have q5 : decide (cut < 0) = true := decide_eq_true (by omega)
        go_wp2_with (first | (go_at_call 10; refine KB.out.mono ?_; rintro e _ ⟨rfl, rfl⟩) | fail)
        go_ret
        exact ⟨rfl, hb1⟩
  obtain ⟨g1, g2, g3⟩ := g
  obtain ⟨h1, h2, h3⟩ := bytesP_le g1 (by omega)
  have q1 : decide ((1500 : Int) < (bytesP l : Int)) = false := decide_eq_false (by omega)
  have q0 : ¬ 1500 < bytesP l := by omega
  have q3 : decide ((50 : Int) < (junk.length : Int)) = false := decide_eq_false (by omega)
  have q4 : ¬ 50 < junk.length := by omega
  have q5 : decide (cut < 0) = false := decide_eq_false (by omega)
  obtain ⟨n, rfl⟩ : ∃ n : Nat, cut = (n : Int) := ⟨cut.toNat, by omega⟩
  have hrl := recs_len l
  have hrow := rowsOf_recs (l := l) (fun x hx => by have := h2 x hx; omega)
  have KF := Lib.hid (file_any A c l w1 (hA.on hb1) (by omega) (fun x hx => by have := h2 x hx; omega) (by omega))
  obtain ⟨b, hbb⟩ : ∃ b, recs l = b := ⟨_, rfl⟩
  unfold FileIs at KF
  rw [hbb] at KF hrl hrow
  have zb := bs_size b
  clear g1
  go_wp2_with (first | (go_at_call 10; refine KB.out.mono ?_; rintro e _ ⟨rfl, rfl⟩) | fail)
  go_at_call 11
  refine KF.out.mono ?_
  rintro e w2 ⟨rfl, hb2⟩
  replace hb2 := trans2 hb1 hb2
  clear KF KB hb1 q1 q0 q3 q4 q5
  by_cases gn : n ≤ b.length
  case neg =>
    have q6 : (b.length : Int) < (n : Int) := by omega
    go_wp2_with fail
    go_ret
    exact ⟨rfl, hb2⟩
  have q6 : ¬ (b.length : Int) < (n : Int) := by omega
  have q7 : n ≤ (bs b).size := by omega
  -- the plain facts
  have hle1 := (rowsOf_is (b.take n)).le
  rw [List.length_take, Nat.min_eq_left gn] at hle1
  have hR1l := (rowsOf_is (b.take n)).len
  have hp1 : pfx l (rowsOf (b.take n)) = true := by
    obtain ⟨t, e⟩ := rows_front b n
    rw [hrow] at e
    exact pfx_iff.2 ⟨t, e⟩
  obtain ⟨m, hm⟩ : ∃ m, min (n + 1) b.length = m := ⟨_, rfl⟩
  have hp2 : pfx (rowsOf (b.take m)) (rowsOf (b.take n)) = true := by
    obtain ⟨t, e⟩ := rows_front (b.take m) n
    rw [List.take_take, Nat.min_eq_left (by omega)] at e
    exact pfx_iff.2 ⟨t, e⟩
  have ht1 : b.take (recs (rowsOf (b.take n))).length = recs (rowsOf (b.take n)) := by
    have := recs_take_rows (b.take n)
    rw [List.take_take, Nat.min_eq_left hle1] at this; exact this
  have hr1 := rows_len (b.take n)
  have hr2 := rows_len (b.take m)
  have hr0 := rows_len b
  have hlm : (b.take n).length ≤ b.length ∧ (b.take m).length ≤ b.length := ⟨by rw [List.length_take]; omega, by rw [List.length_take]; omega⟩
  have K1 := Lib.hid fun wx => rows_any (b.take n) wx (by omega)
  have K2 := Lib.hid fun wx => rows_any (b.take m) wx (by omega)
  have K0 := Lib.hid fun wx => rows_any b wx (by omega)
  rw [hrow] at hr0
  unfold RowsIs at K1 K2 K0
  rw [hrow, hbb] at K0
  have x1 : (bs b).extract 0 n = bs (b.take n) := by rw [bs_cut _ _ _ gn]; rfl
  have x2 : (bs b).extract 0 m = bs (b.take m) := by rw [bs_cut _ _ _ (by omega)]; rfl
  have x3 : (bs b).extract 0 (recs (rowsOf (b.take n))).length = bs (recs (rowsOf (b.take n))) := by rw [bs_cut _ _ _ (by omega), ht1]; rfl
  obtain ⟨R2, hR2⟩ : ∃ R, rowsOf (b.take m) = R := ⟨_, rfl⟩
  obtain ⟨T2, hT2⟩ : ∃ R, b.take m = R := ⟨_, rfl⟩
  rw [hR2] at hp2 hr2 K2
  rw [hT2] at x2 K2 hr2 hlm
  obtain ⟨R1, hR1⟩ : ∃ R, rowsOf (b.take n) = R := ⟨_, rfl⟩
  obtain ⟨T1, hT1⟩ : ∃ R, b.take n = R := ⟨_, rfl⟩
  rw [hR1] at hle1 hR1l hp1 hp2 ht1 hr1 K1 x3
  rw [hT1] at x1 K1 hr1 hlm
  -- the second part
  have hoddE := rows_app hR1l junk
  have hp3 : pfx (rowsOf (recs R1 ++ junk)) R1 = true := pfx_iff.2 ⟨_, hoddE⟩
  have hle3 := (rowsOf_is (recs R1 ++ junk)).le
  have hR3l := (rowsOf_is (recs R1 ++ junk)).len
  have ht3 := recs_take_rows (recs R1 ++ junk)
  have hr3 := rows_len (recs R1 ++ junk)
  have K3 := Lib.hid fun wx => rows_any (recs R1 ++ junk) wx (by rw [List.length_append]; omega)
  unfold RowsIs at K3
  rw [List.length_append] at hle3 hr3
  have y1 : bs (recs R1) ++ bs junk = bs (recs R1 ++ junk) := bs_app _ _
  have zT := bs_size (recs R1 ++ junk)
  rw [List.length_append] at zT
  obtain ⟨R3, hR3⟩ : ∃ R, rowsOf (recs R1 ++ junk) = R := ⟨_, rfl⟩
  rw [hR3] at hp3 hle3 hR3l ht3 K3 hr3
  have K4 := Lib.hid fun wx => rows_any (recs R3) wx (by omega)
  unfold RowsIs at K4
  rw [rowsOf_recs hR3l] at K4
  obtain ⟨T3, hT3⟩ : ∃ R, recs R1 ++ junk = R := ⟨_, rfl⟩
  rw [hT3] at y1 zT K3 ht3
  obtain ⟨U, hU⟩ : ∃ U, (recs R1).length = U := ⟨_, rfl⟩
  obtain ⟨V, hV⟩ : ∃ V, (recs R3).length = V := ⟨_, rfl⟩
  obtain ⟨J, hJ⟩ : ∃ J, junk.length = J := ⟨_, rfl⟩
  have hT3l : T3.length = U + J := by rw [← hT3, List.length_append, hU, hJ]
  rw [hU] at hle1 x3 K1 zT hle3 hr3
  rw [hV] at hle3 ht3 K3 K4
  rw [hJ] at hle3 zj zT g2 hr3
  have x4 : (bs T3).extract 0 V = bs (recs R3) := by rw [bs_cut _ _ _ (by omega), ht3]; rfl
  have e1 : (if (n : Int) + 1 < (b.length : Int) then (n : Int) + 1 else (b.length : Int)) = (m : Int) := by split <;> omega
  have e2 : (if (b.length : Int) < (n : Int) + 1 then (b.length : Int) else (n : Int) + 1) = (m : Int) := by split <;> omega
  have e3 : min ((n : Int) + 1) (b.length : Int) = (m : Int) := by omega
  have e4 : (if (V : Int) < (U : Int) + (J : Int) then (V : Int) else (U : Int) + (J : Int)) = (V : Int) := by split <;> omega
  have e5 : (if (U : Int) + (J : Int) < (V : Int) then (U : Int) + (J : Int) else (V : Int)) = (V : Int) := by split <;> omega
  have e6 : min (V : Int) ((U : Int) + (J : Int)) = (V : Int) := by omega
  have q8 : m ≤ (bs b).size := by omega
  have q9 : U ≤ (bs b).size := by omega
  have q10 : V ≤ (bs T3).size := by omega
  have q11 : ((b.length : Int) != (b.length : Int)) = false := by simp
  have q12 : decide ((n : Int) < (U : Int)) = false := decide_eq_false (by omega)
  have q13 : ¬ n < U := by omega
  have q14 : ((V : Int) == (V : Int)) = true := by simp
  have hb0 : b.length ≤ 1710 := by omega
  have zU : (bs (recs R1)).size = U := by rw [bs_size, hU]
  have q15 : ¬ (9223372036854775807 : Int) < (U : Int) + (J : Int) := by omega
  have q16 : ¬ 9223372036854775807 < U + J := by omega
  clear hm hR1 hR2 hR3 hT1 hT2 hT3 hU hV hJ hoddE hle1 hle3 ht1 ht3 hR1l hR3l hrl hrow hbb h3 hT3l
  have KS := Lib.hid fun wx (hb : Below w.heap.size w wx) B d (h : StrsAt wx wx.heap.size B R1) => begins_any A c l B d R1 wx (hA.on hb) h (by omega) (by omega)
  rw [hp1] at KS
  have KS2 := Lib.hid fun wx C d1 B d (h2 : StrsAt wx wx.heap.size C R2) (h : StrsAt wx wx.heap.size B R1) => begins_any C d1 R2 B d R1 wx h2 h (by omega) (by omega)
  rw [hp2] at KS2
  have KS3 := Lib.hid fun wx (hb : Below w.heap.size w wx) C d1 (h : StrsAt wx wx.heap.size C l) => same_any C d1 l A c l wx h (hA.on hb) (by omega) (by omega)
  rw [show same l l = true from decide_eq_true rfl] at KS3
  have KS4 := Lib.hid fun wx C d1 B d (h2 : StrsAt wx wx.heap.size C R3) (h : StrsAt wx wx.heap.size B R1) => begins_any C d1 R3 B d R1 wx h2 h (by omega) (by omega)
  rw [hp3] at KS4
  have KS5 := Lib.hid fun wx C d1 B d (h2 : StrsAt wx wx.heap.size C R3) (h : StrsAt wx wx.heap.size B R3) => same_any C d1 R3 B d R3 wx h2 h (by omega) (by omega)
  rw [show same R3 R3 = true from decide_eq_true rfl] at KS5
  go_wp2_with fail
  go_at_call 12
  refine (K1.out _).mono ?_
  rintro e w3 ⟨hb3, A1, c1, rfl, hS1⟩
  replace hb3 := trans2 hb2 hb3
  go_wp2_with fail
  go_at_call 12
  refine (K2.out _).mono ?_
  rintro e w4 ⟨hb4, A2, c2, rfl, hS2⟩
  have hS1 := hS1.on hb4
  replace hb4 := trans2 hb3 hb4
  go_wp2_with fail
  go_at_call 12
  refine (K0.out _).mono ?_
  rintro e w5 ⟨hb5, A3, c3, rfl, hS3⟩
  have hS1 := hS1.on hb5
  have hS2 := hS2.on hb5
  replace hb5 := trans2 hb4 hb5
  go_wp2_with fail
  go_at_call 13
  refine (KS.out _ hb5 A1 c1 hS1).mono ?_
  rintro e w6 ⟨rfl, hb6⟩
  have hS1 := hS1.on hb6
  have hS2 := hS2.on hb6
  have hS3 := hS3.on hb6
  replace hb6 := trans2 hb5 hb6
  go_wp2_with fail
  go_at_call 13
  refine (KS2.out _ A2 c2 A1 c1 hS2 hS1).mono ?_
  rintro e w7 ⟨rfl, hb7⟩
  have hS1 := hS1.on hb7
  have hS3 := hS3.on hb7
  replace hb7 := trans2 hb6 hb7
  go_wp2_with fail
  go_at_call 14
  refine (KS3.out _ hb7 A3 c3 hS3).mono ?_
  rintro e w8 ⟨rfl, hb8⟩
  have hS1 := hS1.on hb8
  replace hb8 := trans2 hb7 hb8
  go_wp2_with fail
  go_at_call 12
  refine (K3.out _).mono ?_
  rintro e w9 ⟨hb9, A4, c4, rfl, hS4⟩
  have hS1 := hS1.on hb9
  replace hb9 := trans2 hb8 hb9
  go_wp2_with fail
  go_at_call 12
  refine (K4.out _).mono ?_
  rintro e w10 ⟨hb10, A5, c5, rfl, hS5⟩
  have hS1 := hS1.on hb10
  have hS4 := hS4.on hb10
  replace hb10 := trans2 hb9 hb10
  go_wp2_with fail
  go_at_call 13
  refine (KS4.out _ A4 c4 A1 c1 hS4 hS1).mono ?_
  rintro e w11 ⟨rfl, hb11⟩
  have hS4 := hS4.on hb11
  have hS5 := hS5.on hb11
  replace hb11 := trans2 hb10 hb11
  go_wp2_with fail
  go_at_call 14
  refine (KS5.out _ A5 c5 A4 c4 hS5 hS4).mono ?_
  rintro e w12 ⟨rfl, hb12⟩
  replace hb12 := trans2 hb11 hb12
  go_wp2_with fail
  go_ret
  exact ⟨rfl, hb12⟩
end Go.Proofs.Ytmnimcdbfolhaaa
