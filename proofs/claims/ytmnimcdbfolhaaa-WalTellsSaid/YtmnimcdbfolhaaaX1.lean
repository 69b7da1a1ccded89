/- The walks of Begins, Same, bytes. -/
import Derived.Test.YtmnimcdbfolhaaaV7
set_option linter.unusedSimpArgs false
set_option linter.unusedVariables false
namespace Go.Proofs.Ytmnimcdbfolhaaa
open Go.RowKit DK
attribute [local go_sem] alloc_drewN setCell_drewN shape_drewN
namespace DK
/-- The list a begins with the list b. -/
def pfx (a b : List Bts) : Bool := decide (a.take b.length = b)
theorem pfx_iff {a b : List Bts} : pfx a b = true ↔ ∃ t, a = b ++ t := by
  unfold pfx
  rw [decide_eq_true_eq]
  constructor
  · intro h; exact ⟨a.drop b.length, by conv => lhs; rw [← List.take_append_drop b.length a, h]⟩
  · rintro ⟨t, rfl⟩; rw [List.take_left]
def same (a b : List Bts) : Bool := decide (a = b)
def bytesP (l : List Bts) : Nat := if 30 < l.length then 9999 else (l.map fun x => min x.length 9999).sum
theorem bytesP_le {l : List Bts} {n : Nat} (h : bytesP l ≤ n) (hn : n < 9999) : l.length ≤ 30 ∧ (∀ x ∈ l, x.length ≤ n) ∧ (l.map List.length).sum ≤ n := by
  unfold bytesP at h
  split at h
  · omega
  · rename_i h30
    have key : ∀ l : List Bts, (l.map fun x => min x.length 9999).sum ≤ n → (∀ x ∈ l, x.length ≤ n) ∧ (l.map List.length).sum = (l.map fun x => min x.length 9999).sum := by
      intro l
      induction l with
      | nil => intro _; exact ⟨fun x hx => (by cases hx), rfl⟩
      | cons y l ih =>
        intro h
        simp only [List.map_cons, List.sum_cons] at h ⊢
        obtain ⟨h1, h2⟩ := ih (by omega)
        refine ⟨fun x hx => ?_, by omega⟩
        rcases List.mem_cons.1 hx with rfl | hx
        · omega
        · exact h1 x hx
    obtain ⟨h1, h2⟩ := key l h
    exact ⟨by omega, h1, by omega⟩
theorem recs_len : ∀ (l : List Bts), (recs l).length = (l.map List.length).sum + 7 * l.length
  | [] => rfl
  | x :: l => by rw [recs_cons, List.length_append, recd_len, recs_len l]; simp; omega
end DK
theorem bs_inj_iff {x y : Bts} : bs x = bs y ↔ x = y := ⟨bs_inj, fun h => by rw [h]⟩
set_option maxRecDepth 100000 in
theorem begins_any (A : Option Addr) (c : Nat) (a : List Bts) (B : Option Addr) (d : Nat) (b : List Bts) (w : World) (hA : StrsAt w w.heap.size A a) (hB : StrsAt w w.heap.size B b) (hla : a.length ≤ 1000000000000) (hlb : b.length ≤ 1000000000000) :
    Calls Try.prog 13 #[.slice A a.length c, .slice B b.length d] w fun e w' => e = .returned (.bool (pfx a b)) ∧ Below w.heap.size w w' := by
  by_cases hl : a.length < b.length
  · have hp : pfx a b = false := by
      unfold pfx; exact decide_eq_false fun h => by have := congrArg List.length h; rw [List.length_take] at this; omega
    have e1 : (a.length : Int) < (b.length : Int) := by omega
    rw [hp]
    go_enter Try.func13, Try.ntmps13
    go_wp2_with fail
    go_ret
    exact ⟨rfl, Below.refl _ _⟩
  have e1 : ¬ (a.length : Int) < (b.length : Int) := by omega
  obtain ⟨P, hP⟩ : ∃ P, pfx a b = P := ⟨_, rfl⟩
  have hP := Lib.hid hP
  replace hA := Lib.hid hA
  replace hB := Lib.hid hB
  rw [hP.out]
  obtain ⟨na, hna⟩ : ∃ n, a.length = n := ⟨_, rfl⟩
  obtain ⟨nb, hnb⟩ : ∃ n, b.length = n := ⟨_, rfl⟩
  rw [hna, hnb] at e1
  rw [hna] at hla
  rw [hnb] at hlb
  rw [hna, hnb]
  go_enter Try.func13, Try.ntmps13
  go_wp2_with fail
  go_loopw [5] (fun u5 wr => ∃ k : Nat, k ≤ nb ∧ u5 = .int .i64 k ∧ Hid (a.take k = b.take k) ∧ Hid (Below w.heap.size w wr)) (fun u5 _ => nb - (intOf u5).toNat)
  case atStart => exact ⟨0, Nat.zero_le _, rfl, rfl, Below.refl _ _⟩
  case round =>
    obtain ⟨k, hk, rfl, hT, hbw⟩ := hrel
    by_cases hlt : k < nb
    · have e2 : (k : Int) < (nb : Int) := by omega
      have e3 : (k : Int) < (na : Int) := by omega
      have e4 : k < na := by omega
      obtain ⟨x, hx⟩ : ∃ x, a[k]? = some x := ⟨_, List.getElem?_eq_getElem (by omega)⟩
      obtain ⟨y, hy⟩ : ∃ y, b[k]? = some y := ⟨_, List.getElem?_eq_getElem (by omega)⟩
      obtain ⟨ab, ao, rfl, hab, hac0⟩ := hA.out.at_ hx
      obtain ⟨bb, bo, rfl, hbb, hbc0⟩ := hB.out.at_ hy
      have hac := (hbw.out.cell (p := ⟨ab, ao + k, none⟩) hab).trans hac0
      have hbc := (hbw.out.cell (p := ⟨bb, bo + k, none⟩) hbb).trans hbc0
      clear hac0 hbc0
      by_cases hxy : x = y
      · subst hxy
        have hT2 : Hid (a.take (k + 1) = b.take (k + 1)) := by show _ = _; rw [List.take_add_one, List.take_add_one, hT.out, hx, hy]
        clear hx hy
        go_wp2_with fail
        go_quiet (fail)
        go_wp2_with fail
        go_roundw
        case rel => exact ⟨k + 1, by omega, by go_num, hT2, below_drewN hbw.out _⟩
        case measure => simp [intOf]; omega
      · have g0 : (x == y) = false := by rw [beq_eq_false_iff_ne]; exact hxy
        have t1 := bs_toList x
        have t2 := bs_toList y
        have hPf : Hid (P = false) := by
          show _ = _
          rw [← hP.out]; unfold pfx
          refine decide_eq_false fun h => hxy ?_
          have e : (a.take b.length)[k]? = b[k]? := by rw [h]
          rw [List.getElem?_take_of_lt (by omega), hx, hy] at e
          injection e
        clear hx hy
        go_wp2_with fail
        go_quiet (fail)
        go_wp2_with fail
        go_ret
        exact ⟨ret_bool hPf.out.symm, below_drewN hbw.out _⟩
    · have e2 : ¬ (k : Int) < (nb : Int) := by omega
      have hPt : Hid (P = true) := by
        show _ = _
        rw [← hP.out]; unfold pfx
        have : k = b.length := by omega
        have h := hT.out
        rw [this, List.take_length] at h
        exact decide_eq_true h
      go_wp2_with fail
      go_ret
      exact ⟨ret_bool hPt.out.symm, hbw.out⟩
theorem same_any (A : Option Addr) (c : Nat) (a : List Bts) (B : Option Addr) (d : Nat) (b : List Bts) (w : World) (hA : StrsAt w w.heap.size A a) (hB : StrsAt w w.heap.size B b) (hla : a.length ≤ 1000000000000) (hlb : b.length ≤ 1000000000000) :
    Calls Try.prog 14 #[.slice A a.length c, .slice B b.length d] w fun e w' => e = .returned (.bool (same a b)) ∧ Below w.heap.size w w' := by
  have K := Lib.hid (begins_any A c a B d b w hA hB hla hlb)
  by_cases hl : a.length = b.length
  · have hs : same a b = pfx a b := by unfold same pfx; rw [← hl, List.take_length]
    have g1 : ((a.length : Int) == (b.length : Int)) = true := by rw [beq_iff_eq]; omega
    rw [hs]
    rw [hl] at K ⊢
    go_enter Try.func14, Try.ntmps14
    go_wp2_with (first | (go_at_call 13; refine K.out.mono ?_; rintro e w1 ⟨rfl, hb⟩) | fail)
    go_ret
    exact ⟨rfl, hb⟩
  · have hs : same a b = false := decide_eq_false fun h => hl (by rw [h])
    have g0 : ¬ (a.length : Int) = (b.length : Int) := by omega
    have g1 : ((a.length : Int) == (b.length : Int)) = false := by rw [beq_eq_false_iff_ne]; exact g0
    rw [hs]
    clear K
    go_enter Try.func14, Try.ntmps14
    go_wp2_with fail
    go_ret
    exact ⟨rfl, Below.refl _ _⟩
theorem sum_take {l : List Bts} {k : Nat} {x : Bts} (h : l[k]? = some x) (g : Bts → Nat) : ((l.take (k + 1)).map g).sum = ((l.take k).map g).sum + g x := by
  rw [List.take_add_one, h, List.map_append, List.sum_append]; simp
set_option maxRecDepth 100000 in
theorem bytes_any (A : Option Addr) (c : Nat) (l : List Bts) (w : World) (hA : StrsAt w w.heap.size A l) (hl : l.length ≤ 9223372036854775807) (hS : Hid (∀ x ∈ l, x.length ≤ 140737488355328)) :
    Calls Try.prog 10 #[.slice A l.length c] w fun e w' => e = .returned (.int .i64 (bytesP l : Nat)) ∧ w = w' := by
  by_cases h30 : 30 < l.length
  · have e1 : (30 : Int) < (l.length : Int) := by omega
    have hb : bytesP l = 9999 := by unfold bytesP; rw [if_pos h30]
    rw [hb]
    go_enter Try.func10, Try.ntmps10
    go_wp2_with fail
    go_ret
    exact ⟨rfl, rfl⟩
  have e1 : ¬ (30 : Int) < (l.length : Int) := by omega
  have hb : bytesP l = (l.map fun x => min x.length 9999).sum := by unfold bytesP; rw [if_neg h30]
  obtain ⟨T, hT⟩ : ∃ T, bytesP l = T := ⟨_, rfl⟩
  have hT := Lib.hid hT
  replace hb := Lib.hid hb
  rw [hT.out]
  replace hA := Lib.hid hA
  obtain ⟨n, hn⟩ : ∃ n, l.length = n := ⟨_, rfl⟩
  rw [hn] at e1 hl h30
  rw [hn]
  go_enter Try.func10, Try.ntmps10
  go_wp2_with fail
  go_loop [3, 4] (fun u3 u4 => ∃ k s : Nat, k ≤ n ∧ u4 = .int .i64 k ∧ u3 = .int .i64 s ∧ Hid (((l.take k).map fun x => min x.length 9999).sum = s) ∧ s ≤ k * 9999) (fun _ u4 => n - (intOf u4).toNat)
  case atStart => exact ⟨0, 0, Nat.zero_le _, rfl, rfl, rfl, Nat.le_refl _⟩
  case round =>
    obtain ⟨k, s, hk, rfl, rfl, hs, hs9⟩ := hrel
    by_cases hlt : k < n
    · have e2 : (k : Int) < (n : Int) := by omega
      obtain ⟨x, hx⟩ : ∃ x, l[k]? = some x := ⟨_, List.getElem?_eq_getElem (by omega)⟩
      obtain ⟨ab, ao, rfl, hab, hac⟩ := hA.out.at_ hx
      have z1 := bs_size x
      have hs2 : Hid (((l.take (k + 1)).map fun x => min x.length 9999).sum = s + min x.length 9999) := by show _ = _; rw [sum_take hx, hs.out]
      clear hx hs
      obtain ⟨m, hm⟩ : ∃ m, min x.length 9999 = m := ⟨_, rfl⟩
      rw [hm] at hs2
      have e3 : (if (x.length : Int) < 9999 then (x.length : Int) else 9999) = (m : Int) := by split <;> omega
      have e4 : min (x.length : Int) 9999 = (m : Int) := by omega
      have e5 : (if (9999 : Int) < (x.length : Int) then (9999 : Int) else (x.length : Int)) = (m : Int) := by split <;> omega
      have e6 : m ≤ 9999 := by omega
      clear hm
      go_wp2_with fail
      go_round
      case rel => exact ⟨k + 1, s + m, by omega, by go_num, by go_num, hs2, by omega⟩
      case measure => simp [intOf]; omega
    · have e2 : ¬ (k : Int) < (n : Int) := by omega
      have hf : Hid (T = s) := by
        show _ = _
        rw [← hT.out, hb.out, ← hs.out, List.take_of_length_le (by omega)]
      go_wp2_with fail
      go_ret
      exact ⟨ret_int (by rw [hf.out]), rfl⟩
end Go.Proofs.Ytmnimcdbfolhaaa
