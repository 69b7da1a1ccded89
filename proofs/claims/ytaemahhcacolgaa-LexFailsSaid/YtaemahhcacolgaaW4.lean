/- The walk of sign. -/
import Derived.Test.YtaemahhcacolgaaW3
namespace Go.Proofs.Ytaemahhcacolgaa
open Go.RowKit LX

theorem byte_eq {c : UInt8} {n : Nat} (h : n < 256) : c = UInt8.ofNat n ↔ (c.toNat : Int) = (n : Int) := by
  constructor
  · intro e; subst e; simp; omega
  · intro e; refine UInt8.toNat_inj.1 ?_; simp; omega
def signI (c : Int) (eq : Bool) : Nat :=
  if c = 60 ∨ c = 62 ∨ c = 61 ∨ c = 33 then (if eq = true then 2 else if c = 33 then 0 else 1)
  else if c = 123 ∨ c = 125 ∨ c = 40 ∨ c = 41 ∨ c = 44 ∨ c = 59 ∨ c = 58 ∨ c = 43 ∨ c = 45 ∨ c = 42 ∨ c = 47 ∨ c = 37 then 1 else 0
theorem signN_int (c : UInt8) (r : List UInt8) : signN (c :: r) = signI (c.toNat : Int) (decide (r.head? = some 61)) := by
  have b := fun (n : Nat) (h : n < 256) => byte_eq (c := c) h
  have e1 := b 60 (by omega); have e2 := b 62 (by omega); have e3 := b 61 (by omega); have e4 := b 33 (by omega)
  have f1 := b 123 (by omega); have f2 := b 125 (by omega); have f3 := b 40 (by omega); have f4 := b 41 (by omega)
  have f5 := b 44 (by omega); have f6 := b 59 (by omega); have f7 := b 58 (by omega); have f8 := b 43 (by omega)
  have f9 := b 45 (by omega); have f10 := b 42 (by omega); have f11 := b 47 (by omega); have f12 := b 37 (by omega)
  have n1 : (UInt8.ofNat 60 = 60) := rfl
  rw [signN_cons]
  unfold signI
  have q1 : (c = 60 ∨ c = 62 ∨ c = 61 ∨ c = 33) ↔ ((c.toNat : Int) = 60 ∨ (c.toNat : Int) = 62 ∨ (c.toNat : Int) = 61 ∨ (c.toNat : Int) = 33) := by
    exact or_congr e1 (or_congr e2 (or_congr e3 e4))
  have q2 : (c = 123 ∨ c = 125 ∨ c = 40 ∨ c = 41 ∨ c = 44 ∨ c = 59 ∨ c = 58 ∨ c = 43 ∨ c = 45 ∨ c = 42 ∨ c = 47 ∨ c = 37) ↔ ((c.toNat : Int) = 123 ∨ (c.toNat : Int) = 125 ∨ (c.toNat : Int) = 40 ∨ (c.toNat : Int) = 41 ∨ (c.toNat : Int) = 44 ∨ (c.toNat : Int) = 59 ∨ (c.toNat : Int) = 58 ∨ (c.toNat : Int) = 43 ∨ (c.toNat : Int) = 45 ∨ (c.toNat : Int) = 42 ∨ (c.toNat : Int) = 47 ∨ (c.toNat : Int) = 37) :=
    or_congr f1 (or_congr f2 (or_congr f3 (or_congr f4 (or_congr f5 (or_congr f6 (or_congr f7 (or_congr f8 (or_congr f9 (or_congr f10 (or_congr f11 f12))))))))))
  have q3 : (c = 33) ↔ ((c.toNat : Int) = 33) := e4
  exact ite_congr (propext q1) (fun _ => ite_congr (propext decide_eq_true_iff.symm) (fun _ => rfl) (fun _ => ite_congr (propext q3) (fun _ => rfl) (fun _ => rfl))) (fun _ => ite_congr (propext q2) (fun _ => rfl) (fun _ => rfl))
def SignIs (s : ByteArray) (w : World) (e : Ending) (w' : World) : Prop := e = .returned (.int .i64 (signN s.data.toList : Int)) ∧ w = w'
theorem sign_list (s : ByteArray) (h : 0 < s.size) (q : Bool) (hq : q = true ↔ ∃ h1 : 1 < s.size, (s[1].toNat : Int) = 61) : signN s.data.toList = signI (s[0].toNat : Int) q := by
  have e0 := drop_cons s 0 h
  rw [List.drop_zero] at e0
  rw [e0, signN_int]
  congr 1
  rw [Bool.eq_iff_iff, hq, decide_eq_true_iff]
  by_cases h1 : 1 < s.size
  · rw [drop_cons s 1 h1]
    simp only [List.head?_cons, Option.some.injEq, h1, exists_true_left]
    exact byte_eq (n := 61) (by omega)
  · rw [List.drop_of_length_le (by simp; omega)]
    simp [h1]

set_option maxHeartbeats 8000000 in
theorem sign_any (s : ByteArray) (w : World) (hs : s.size ≤ 9223372036854775807) (h0 : 0 < s.size) :
    Calls Try.prog 39 #[.string s] w (SignIs s w) := by
  have key := fun q hq => sign_list s h0 q hq
  by_cases h1 : 1 < s.size
  case neg =>
    have hN : Hid (signN s.data.toList = signI (s[0].toNat : Int) false) := key false ⟨fun h => by (cases h), fun ⟨h, _⟩ => absurd h h1⟩
    clear key
    obtain ⟨c, hc⟩ : ∃ c, c = (s[0].toNat : Int) := ⟨_, rfl⟩
    rw [← hc] at hN
    have Hc := hc.symm
    clear hc
    by_cases gA : c = 60 ∨ c = 62 ∨ c = 61 ∨ c = 33
    · rcases gA with rfl | rfl | rfl | rfl
      all_goals
        go_enter Try.func39, Try.ntmps39
        go_wp2_with fail
        go_ret
        exact ⟨ret_int (by rw [hN.out]; rfl), rfl⟩
    by_cases gB : c = 123 ∨ c = 125 ∨ c = 40 ∨ c = 41 ∨ c = 44 ∨ c = 59 ∨ c = 58 ∨ c = 43 ∨ c = 45 ∨ c = 42 ∨ c = 47 ∨ c = 37
    · rcases gB with rfl | rfl | rfl | rfl | rfl | rfl | rfl | rfl | rfl | rfl | rfl | rfl
      all_goals
        go_enter Try.func39, Try.ntmps39
        go_wp2_with fail
        go_ret
        exact ⟨ret_int (by rw [hN.out]; rfl), rfl⟩
    have hN' : Hid (signN s.data.toList = 0) := by
      show _ = _
      rw [hN.out]; unfold signI; rw [if_neg gA, if_neg gB]
    clear hN
    simp only [not_or] at gA gB
    obtain ⟨a1, a2, a3, a4⟩ := gA
    obtain ⟨b1, b2, b3, b4, b5, b6, b7, b8, b9, b10, b11, b12⟩ := gB
    go_enter Try.func39, Try.ntmps39
    go_wp2_with fail
    go_ret
    exact ⟨ret_int (by rw [hN'.out]; rfl), rfl⟩
  by_cases h61 : (s[1].toNat : Int) = 61
  case neg =>
    have hN : Hid (signN s.data.toList = signI (s[0].toNat : Int) false) := key false ⟨fun h => by (cases h), fun ⟨_, h⟩ => absurd h h61⟩
    clear key
    obtain ⟨c, hc⟩ : ∃ c, c = (s[0].toNat : Int) := ⟨_, rfl⟩
    rw [← hc] at hN
    have Hc := hc.symm
    clear hc
    by_cases gA : c = 60 ∨ c = 62 ∨ c = 61 ∨ c = 33
    · rcases gA with rfl | rfl | rfl | rfl
      all_goals
        go_enter Try.func39, Try.ntmps39
        go_wp2_with fail
        go_ret
        exact ⟨ret_int (by rw [hN.out]; rfl), rfl⟩
    by_cases gB : c = 123 ∨ c = 125 ∨ c = 40 ∨ c = 41 ∨ c = 44 ∨ c = 59 ∨ c = 58 ∨ c = 43 ∨ c = 45 ∨ c = 42 ∨ c = 47 ∨ c = 37
    · rcases gB with rfl | rfl | rfl | rfl | rfl | rfl | rfl | rfl | rfl | rfl | rfl | rfl
      all_goals
        go_enter Try.func39, Try.ntmps39
        go_wp2_with fail
        go_ret
        exact ⟨ret_int (by rw [hN.out]; rfl), rfl⟩
    have hN' : Hid (signN s.data.toList = 0) := by
      show _ = _
      rw [hN.out]; unfold signI; rw [if_neg gA, if_neg gB]
    clear hN
    simp only [not_or] at gA gB
    obtain ⟨a1, a2, a3, a4⟩ := gA
    obtain ⟨b1, b2, b3, b4, b5, b6, b7, b8, b9, b10, b11, b12⟩ := gB
    go_enter Try.func39, Try.ntmps39
    go_wp2_with fail
    go_ret
    exact ⟨ret_int (by rw [hN'.out]; rfl), rfl⟩
  have hN : Hid (signN s.data.toList = signI (s[0].toNat : Int) true) := key true ⟨fun _ => ⟨h1, h61⟩, fun _ => rfl⟩
  clear key
  obtain ⟨c, hc⟩ : ∃ c, c = (s[0].toNat : Int) := ⟨_, rfl⟩
  rw [← hc] at hN
  have Hc := hc.symm
  clear hc
  by_cases gA : c = 60 ∨ c = 62 ∨ c = 61 ∨ c = 33
  · rcases gA with rfl | rfl | rfl | rfl
    all_goals
      go_enter Try.func39, Try.ntmps39
      go_wp2_with fail
      go_ret
      exact ⟨ret_int (by rw [hN.out]; rfl), rfl⟩
  by_cases gB : c = 123 ∨ c = 125 ∨ c = 40 ∨ c = 41 ∨ c = 44 ∨ c = 59 ∨ c = 58 ∨ c = 43 ∨ c = 45 ∨ c = 42 ∨ c = 47 ∨ c = 37
  · rcases gB with rfl | rfl | rfl | rfl | rfl | rfl | rfl | rfl | rfl | rfl | rfl | rfl
    all_goals
      go_enter Try.func39, Try.ntmps39
      go_wp2_with fail
      go_ret
      exact ⟨ret_int (by rw [hN.out]; rfl), rfl⟩
  have hN' : Hid (signN s.data.toList = 0) := by
    show _ = _
    rw [hN.out]; unfold signI; rw [if_neg gA, if_neg gB]
  clear hN
  simp only [not_or] at gA gB
  obtain ⟨a1, a2, a3, a4⟩ := gA
  obtain ⟨b1, b2, b3, b4, b5, b6, b7, b8, b9, b10, b11, b12⟩ := gB
  go_enter Try.func39, Try.ntmps39
  go_wp2_with fail
  go_ret
  exact ⟨ret_int (by rw [hN'.out]; rfl), rfl⟩
end Go.Proofs.Ytaemahhcacolgaa
