/- DiskTurns answers true for every input. -/
import Derived.Test.YtfohojkclfofmaaSM
import Derived.Test.YtfohojkclfofmaaLP1
set_option linter.unusedSimpArgs false
set_option linter.unusedVariables false
namespace Go.Proofs.Ytfohojkclfofmaa
open Go.RowKit DK
attribute [local go_sem] alloc_drewN setCell_drewN shape_drewN
theorem bs_toList (x : Bts) : (bs x).toList = x := by rw [ByteArray.toList_eq, bs_list]
theorem turn_s1 {a : Bts} {s : St} (h : turn s (3 : Nat) (4 : Nat) = (0, turnS s 3 4)) : (turn s (3 : Nat) (4 : Nat)).1 = 0 ∧ (turn s (3 : Nat) (4 : Nat)).2 = turnS s 3 4 := by rw [h]; exact ⟨rfl, rfl⟩
set_option maxRecDepth 100000 in
set_option maxHeartbeats 4000000 in
theorem turns_any (a b : Bts) (st : Int) (A : Option Addr) (c : Nat) (keep : List Int) (w : World) (ha : a.length ≤ 9223372036854775807) (hb : b.length ≤ 9223372036854775807) (hk : keep.length ≤ 9223372036854775807) (hA : IntsAt w w.heap.size A keep) :
    Calls Try.prog 3 #[.string (bs a), .string (bs b), .int .i64 st, .slice A keep.length c] w (BoolIs true w) := by
  have z1 := bs_size a
  have y1 := bs_toList a
  have y2 := bs_toList b
  have z2 := bs_size b
  go_enter Try.func3, Try.ntmps3
  go_wp2_with fail
  go_at_call 7
  refine (small_any w).mono ?_
  rintro e w1 ⟨rfl, hb1⟩
  go_wp2_with fail
  go_at_call 8
  refine (Has.new w1 hb1).mono ?_
  rintro e w2 ⟨q, rfl, h, -, -⟩
  unfold dp
  by_cases hl : a.length ≤ 50000 ∧ b.length ≤ 50000
  case neg =>
    rcases Nat.lt_or_ge 50000 a.length with g | g
    · have g1 : (50000 : Int) < (a.length : Int) := by omega
      have g2 : decide ((50000 : Int) < (a.length : Int)) = true := decide_eq_true g1
      go_wp2_with fail
      go_ret
      exact ⟨rfl, h.below⟩
    · have g0 : 50000 < b.length := by omega
      have g1 : (50000 : Int) < (b.length : Int) := by omega
      have g2 : decide ((50000 : Int) < (b.length : Int)) = true := decide_eq_true g1
      have g3 : decide ((50000 : Int) < (a.length : Int)) = false := decide_eq_false (by omega)
      have g4 : ¬ 50000 < a.length := by omega
      go_wp2_with fail
      go_ret
      exact ⟨rfl, h.below⟩
  obtain ⟨hl1, hl2⟩ := hl
  have g1 : decide ((50000 : Int) < (a.length : Int)) = false := decide_eq_false (by omega)
  have g2 : decide ((50000 : Int) < (b.length : Int)) = false := decide_eq_false (by omega)
  have g3 : ¬ 50000 < a.length := by omega
  have g4 : ¬ 50000 < b.length := by omega
  go_wp2_with fail
  go_at_call 9
  refine (h.append (3 : Nat) a ha (by omega) (tu1_ok hl1) (show _ = tu1 a from rfl)).mono ?_
  clear h
  rintro e1 w3 ⟨rfl, h⟩
  have rd : ∀ (s : St) (x : Bts), s.data 3 = x → s.down = false → DK.read s (3 : Nat) = (x, 0) := fun s x h1 h2 => by rw [read_up h2 (by omega), h1]
  have sz : ∀ (s : St) (n : Int), ((s.data 4).length : Int) = n → DK.size s (4 : Nat) = n := fun s n h1 => by rw [size_num (by omega), h1]
  have nil0 : ∀ (n : Nat), List.take n ([] : Bts) = [] := fun n => List.take_nil
  by_cases h0 : st = 0
  case pos =>
    subst h0
    obtain ⟨T1, T2⟩ := turn_s1 (a := a) (turn_ok (tu2_up a) (tu2_q hl1))
    have R := rd (DK.start (crash (turnS (tu2 a) 3 4) keep)) [] (by rw [turned3 (tu2_up a) (tu2_q hl1), tu2_d hl1]; exact nil0 _) rfl
    go_wp2_with (first | (go_at_call 10; refine (h.flush (3 : Nat) (by omega) (tu2_ok (a := a)) (show _ = tu2 a from rfl)).mono ?_; clear h; rintro e2 w4 ⟨rfl, h⟩) | fail)
    go_at_call 11
    refine (h.turn (3 : Nat) (4 : Nat) (by omega) T1 T2).mono ?_
    clear h
    rintro e5 w7 ⟨rfl, h⟩
    go_wp2_with fail
    go_at_call 12
    refine (h.crash (Apart.old h hA) hk (by omega) rfl).mono ?_
    clear h
    rintro e6 w8 ⟨rfl, h⟩
    go_wp2_with fail
    go_at_call 13
    refine (h.start rfl).mono ?_
    clear h
    rintro e7 w9 ⟨rfl, h⟩
    go_wp2_with fail
    go_at_call 14
    refine (h.read (3 : Nat) R).mono ?_
    rintro f1 x1 ⟨rfl, rfl⟩
    simp only [bs]; go_wp2_with fail
    go_ret
    exact ⟨rfl, h.below⟩
  have X1 : (DK.append (tu2 a) (4 : Nat) b).1 = 0 := by rw [tu3_all hl1 hl2]
  have n0 : (st == 0) = false := by rw [beq_eq_false_iff_ne]; exact h0
  have n1 : (st != 0) = true := by rw [bne, n0]; rfl
  by_cases h1 : st = 1
  case pos =>
    clear n0 n1
    subst h1
    clear h0
    by_cases hn : b = []
    · subst hn
      have y3 : bs [] = ⟨#[]⟩ := rfl
      obtain ⟨T1, T2⟩ := turn_s1 (a := a) (turn_ok (tu3_up a []) (by rw [tu3_q hl1 hl2]; rfl))
      have R := rd (DK.start (crash (turnS (tu3 a []) 3 4) keep)) [] (by rw [turned3 (tu3_up a []) (by rw [tu3_q hl1 hl2]; rfl), tu3_d hl1 hl2]; exact nil0 _) rfl
      have S := sz (DK.start (crash (turnS (tu3 a []) 3 4) keep)) 0 (by rw [turned4 (tu3_up a []) (by rw [tu3_q hl1 hl2]; rfl)]; rfl)
      go_wp2_with (first | (go_at_call 10; refine (h.flush (3 : Nat) (by omega) (tu2_ok (a := a)) (show _ = tu2 a from rfl)).mono ?_; clear h; rintro e2 w4 ⟨rfl, h⟩) | fail)
      go_at_call 9
      refine (h.append (4 : Nat) [] hb (by omega) X1 (show _ = tu3 a [] from rfl)).mono ?_
      clear h
      rintro e3 w5 ⟨rfl, h⟩
      go_wp2_with fail
      go_at_call 11
      refine (h.turn (3 : Nat) (4 : Nat) (by omega) T1 T2).mono ?_
      clear h
      rintro e5 w7 ⟨rfl, h⟩
      go_wp2_with fail
      go_at_call 12
      refine (h.crash (Apart.old h hA) hk (by omega) rfl).mono ?_
      clear h
      rintro e6 w8 ⟨rfl, h⟩
      go_wp2_with fail
      go_at_call 13
      refine (h.start rfl).mono ?_
      clear h
      rintro e7 w9 ⟨rfl, h⟩
      go_wp2_with fail
      go_at_call 14
      refine (h.read (3 : Nat) R).mono ?_
      rintro f1 x1 ⟨rfl, rfl⟩
      simp only [bs]
      go_wp2_with (first | (go_at_call 15; refine (h.size (4 : Nat) S).mono ?_; rintro f2 x2 ⟨rfl, rfl⟩) | fail)
      go_ret
      exact ⟨rfl, h.below⟩
    · have hne : (b == []) = false := by rw [beq_eq_false_iff_ne]; exact hn
      have T1 : (DK.turn (tu3 a b) (3 : Nat) (4 : Nat)).1 = 10 := by rw [turn_late (tu3_up a b) hn (tu3_q hl1 hl2)]
      have T2 : (DK.turn (tu3 a b) (3 : Nat) (4 : Nat)).2 = tu3 a b := by rw [turn_late (tu3_up a b) hn (tu3_q hl1 hl2)]
      have R := rd (DK.start (crash (tu3 a b) keep)) a (by
        show (crash (tu3 a b) keep).data 3 = a
        rw [crash_quiet (tu3_up a b).down keep (fun p hp => by
          rw [tu3_q hl1 hl2] at hp; unfold pend at hp; rw [if_neg hn] at hp
          obtain rfl := List.mem_singleton.1 hp; show (4 : Nat) ≠ 3; omega), tu3_d hl1 hl2, tu3_u hl1 hl2]
        show List.take a.length a = a
        rw [List.take_length]) rfl
      obtain ⟨n, S, hn1⟩ : ∃ n : Nat, DK.size (DK.start (crash (tu3 a b) keep)) (4 : Nat) = (n : Int) ∧ n ≤ b.length := by
        refine ⟨_, sz _ _ rfl, ?_⟩
        have := crash_le (s := tu3 a b) (tu3_k a b) keep (f := 4) (by omega)
        rw [tu3_d hl1 hl2] at this; exact this
      have S1 : decide ((n : Int) ≤ (b.length : Int)) = true := decide_eq_true (by omega)
      have S2 : (n : Int) ≤ (b.length : Int) := by omega
      go_wp2_with (first | (go_at_call 10; refine (h.flush (3 : Nat) (by omega) (tu2_ok (a := a)) (show _ = tu2 a from rfl)).mono ?_; clear h; rintro e2 w4 ⟨rfl, h⟩) | fail)
      go_at_call 9
      refine (h.append (4 : Nat) b hb (by omega) X1 (show _ = tu3 a b from rfl)).mono ?_
      clear h
      rintro e3 w5 ⟨rfl, h⟩
      go_wp2_with fail
      go_at_call 11
      refine (h.turn (3 : Nat) (4 : Nat) (by omega) T1 T2).mono ?_
      clear h
      rintro e5 w7 ⟨rfl, h⟩
      go_wp2_with fail
      go_at_call 12
      refine (h.crash (Apart.old h hA) hk (by omega) rfl).mono ?_
      clear h
      rintro e6 w8 ⟨rfl, h⟩
      go_wp2_with fail
      go_at_call 13
      refine (h.start rfl).mono ?_
      clear h
      rintro e7 w9 ⟨rfl, h⟩
      go_wp2_with fail
      go_at_call 14
      refine (h.read (3 : Nat) R).mono ?_
      rintro f1 x1 ⟨rfl, rfl⟩
      go_wp2_with (first | (go_at_call 15; refine (h.size (4 : Nat) S).mono ?_; rintro f2 x2 ⟨rfl, rfl⟩) | fail)
      go_ret
      exact ⟨rfl, h.below⟩
  have n2 : (st == 1) = false := by rw [beq_eq_false_iff_ne]; exact h1
  have n3 : (st != 1) = true := by rw [bne, n2]; rfl
  obtain ⟨T1, T2⟩ := turn_s1 (a := a) (turn_ok (tu4_up a b) (tu4_q hl1 hl2))
  have R := rd (DK.start (crash (turnS (tu4 a b) 3 4) keep)) b (by
    rw [turned3 (tu4_up a b) (tu4_q hl1 hl2), tu4_d hl1 hl2, tu4_u hl1 hl2]
    show List.take b.length b = b
    rw [List.take_length]) rfl
  have S := sz (DK.start (crash (turnS (tu4 a b) 3 4) keep)) 0 (by rw [turned4 (tu4_up a b) (tu4_q hl1 hl2)]; rfl)
  have X2 : (DK.flush (tu3 a b) (4 : Nat)).1 = 0 := by rw [flush_up (tu3_up a b) (by omega)]
  go_wp2_with (first | (go_at_call 10; refine (h.flush (3 : Nat) (by omega) (tu2_ok (a := a)) (show _ = tu2 a from rfl)).mono ?_; clear h; rintro e2 w4 ⟨rfl, h⟩) | fail)
  go_at_call 9
  refine (h.append (4 : Nat) b hb (by omega) X1 (show _ = tu3 a b from rfl)).mono ?_
  clear h
  rintro e3 w5 ⟨rfl, h⟩
  go_wp2_with fail
  go_at_call 10
  refine (h.flush (4 : Nat) (by omega) X2 (show _ = tu4 a b from rfl)).mono ?_
  clear h
  rintro e4 w6 ⟨rfl, h⟩
  go_wp2_with fail
  go_at_call 11
  refine (h.turn (3 : Nat) (4 : Nat) (by omega) T1 T2).mono ?_
  clear h
  rintro e5 w7 ⟨rfl, h⟩
  go_wp2_with fail
  go_at_call 12
  refine (h.crash (Apart.old h hA) hk (by omega) rfl).mono ?_
  clear h
  rintro e6 w8 ⟨rfl, h⟩
  go_wp2_with fail
  go_at_call 13
  refine (h.start rfl).mono ?_
  clear h
  rintro e7 w9 ⟨rfl, h⟩
  go_wp2_with fail
  go_at_call 14
  refine (h.read (3 : Nat) R).mono ?_
  rintro f1 x1 ⟨rfl, rfl⟩
  go_wp2_with (first | (go_at_call 15; refine (h.size (4 : Nat) S).mono ?_; rintro f2 x2 ⟨rfl, rfl⟩) | fail)
  go_ret
  exact ⟨rfl, h.below⟩
end Go.Proofs.Ytfohojkclfofmaa
