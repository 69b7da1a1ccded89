/- Acts in memory; the walk of few. -/
import Derived.Test.YtmnimcdbfolhaaaLP5
set_option linter.unusedSimpArgs false
set_option linter.unusedVariables false
namespace Go.Proofs.Ytmnimcdbfolhaaa
open Go.RowKit DK
attribute [local go_sem] alloc_drewN setCell_drewN shape_drewN
structure WA where
  d : Int
  s : Bts
  LA : Option Addr
  Lc : Nat
  L : List Bts
  n : Int
  KA : Option Addr
  Kc : Nat
  K : List Int
def WA.zero : WA := ⟨0, [], none, 0, [], 0, none, 0, []⟩
def actC (a : WA) (j : Nat) : Value := match j with
  | 0 => .int .i64 a.d
  | 1 => .string (bs a.s)
  | 2 => .slice a.LA a.L.length a.Lc
  | 3 => .int .i64 a.n
  | _ => .slice a.KA a.K.length a.Kc
def actF (l : List WA) (j : Nat) : Value := actC (l.getD (j / 5) WA.zero) (j % 5)
def ActsAt (w : World) (B : Nat) (C : Option Addr) (l : List WA) : Prop := CellsAt w B C (l.length * 5) (actF l)
def PartsAt (w : World) (B : Nat) (l : List WA) : Prop := ∀ a ∈ l, StrsAt w B a.LA a.L ∧ IntsAt w B a.KA a.K
structure ActAt (w : World) (b o : Nat) (a : WA) : Prop where
  c0 : w.cell? ⟨b, o, none⟩ = some (.int .i64 a.d)
  c1 : w.cell? ⟨b, o + 1, none⟩ = some (.string (bs a.s))
  c2 : w.cell? ⟨b, o + 2, none⟩ = some (.slice a.LA a.L.length a.Lc)
  c3 : w.cell? ⟨b, o + 3, none⟩ = some (.int .i64 a.n)
  c4 : w.cell? ⟨b, o + 4, none⟩ = some (.slice a.KA a.K.length a.Kc)
section
variable {w w' : World} {B : Nat} {C : Option Addr} {l : List WA}
theorem ActsAt.at_ (h : ActsAt w B C l) {k : Nat} {a : WA} (hk : l[k]? = some a) : ∃ b off, C = some ⟨b, off, none⟩ ∧ b < B ∧ ActAt w b (off + k * 5) a := by
  have hlt := (List.getElem?_eq_some_iff.1 hk).1
  obtain ⟨b, off, e, hb, hc⟩ := h (by omega)
  have key : ∀ j, j < 5 → w.cell? ⟨b, off + k * 5 + j, none⟩ = some (actC a j) := fun j hj => by
    rw [Nat.add_assoc, hc (k * 5 + j) (by omega)]
    unfold actF
    rw [show (k * 5 + j) / 5 = k by omega, show (k * 5 + j) % 5 = j by omega]
    simp [List.getD_eq_getElem?_getD, hk]
  exact ⟨b, off, e, hb, key 0 (by omega), key 1 (by omega), key 2 (by omega), key 3 (by omega), key 4 (by omega)⟩
theorem ActsAt.below (h : ActsAt w B C l) (hb : Below B w w') : ActsAt w' B C l := CellsAt.below h hb
theorem ActsAt.on (h : ActsAt w w.heap.size C l) (hb : Below w.heap.size w w') : ActsAt w' w'.heap.size C l := CellsAt.more (h.below hb) hb.size
end
def Few (l : List WA) : Prop := l.length ≤ 30 ∧ ∀ a ∈ l, a.L.length ≤ 12 ∧ a.K.length ≤ 8 ∧ a.s.length ≤ 2000 ∧ ∀ x ∈ a.L, x.length ≤ 2000
def FewIs (l : List WA) (w : World) (e : Ending) (w' : World) : Prop := ∃ fb, e = .returned (.bool fb) ∧ (fb = true → Few l) ∧ w = w'
set_option maxRecDepth 100000 in
set_option maxHeartbeats 4000000 in
theorem few_any (C : Option Addr) (c : Nat) (l : List WA) (w : World) (hC : ActsAt w w.heap.size C l) (hP : PartsAt w w.heap.size l) (hl : l.length ≤ 9223372036854775807) (hS : Hid (∀ a ∈ l, a.s.length ≤ 140737488355328 ∧ a.L.length ≤ 140737488355328 ∧ a.K.length ≤ 140737488355328 ∧ ∀ x ∈ a.L, x.length ≤ 140737488355328)) :
    Calls Try.prog 27 #[.slice C l.length c] w (FewIs l w) := by
  by_cases h30 : 30 < l.length
  · have e1 : (30 : Int) < (l.length : Int) := by omega
    go_enter Try.func27, Try.ntmps27
    go_wp2_with fail
    go_ret
    exact ⟨false, rfl, fun h => (by cases h), rfl⟩
  have e1 : ¬ (30 : Int) < (l.length : Int) := by omega
  replace hC := Lib.hid hC
  replace hP := Lib.hid hP
  obtain ⟨n, hn⟩ : ∃ n, l.length = n := ⟨_, rfl⟩
  rw [hn] at e1 hl h30 ⊢
  go_enter Try.func27, Try.ntmps27
  go_wp2_with fail
  go_loop [3, 4] (fun u3 u4 => ∃ k T : Nat, k ≤ n ∧ u4 = .int .i64 k ∧ u3 = .int .i64 T ∧ T ≤ k * 39000 ∧ Hid (∀ a ∈ l.take k, a.L.length ≤ 12 ∧ a.K.length ≤ 8 ∧ min a.s.length 3000 ≤ T ∧ ∀ x ∈ a.L, min x.length 3000 ≤ T)) (fun _ u4 => n - (intOf u4).toNat)
  case atStart => exact ⟨0, 0, Nat.zero_le _, rfl, rfl, Nat.le_refl _, fun a ha => by simp at ha⟩
  case round =>
    obtain ⟨k, T, hk, rfl, rfl, hT, hI⟩ := hrel
    by_cases hlt : k < n
    · have e2 : (k : Int) < (n : Int) := by omega
      obtain ⟨a, ha⟩ : ∃ a, l[k]? = some a := ⟨_, List.getElem?_eq_getElem (by omega)⟩
      obtain ⟨ab, ao, rfl, hab, hA⟩ := hC.out.at_ ha
      obtain ⟨c0, c1, c2, c3, c4⟩ := hA
      obtain ⟨s1, s2, s3, s4⟩ := hS.out a (List.mem_of_getElem? ha)
      have hp := Lib.hid (hP.out a (List.mem_of_getElem? ha)).1
      have z1 := bs_size a.s
      obtain ⟨NL, hNL⟩ : ∃ m, a.L.length = m := ⟨_, rfl⟩
      obtain ⟨NK, hNK⟩ : ∃ m, a.K.length = m := ⟨_, rfl⟩
      rw [hNL] at c2 s2
      rw [hNK] at c4 s3
      rcases Nat.lt_or_ge 12 NL with g1 | g1
      · have q1 : decide ((12 : Int) < (NL : Int)) = true := decide_eq_true (by omega)
        clear ha
        go_wp2_with fail
        go_ret
        exact ⟨false, rfl, fun h => (by cases h), rfl⟩
      have q1 : decide ((12 : Int) < (NL : Int)) = false := decide_eq_false (by omega)
      have q2 : ¬ 12 < NL := by omega
      rcases Nat.lt_or_ge 8 NK with g2 | g2
      · have q3 : decide ((8 : Int) < (NK : Int)) = true := decide_eq_true (by omega)
        clear ha
        go_wp2_with fail
        go_ret
        exact ⟨false, rfl, fun h => (by cases h), rfl⟩
      have q3 : decide ((8 : Int) < (NK : Int)) = false := decide_eq_false (by omega)
      have q4 : ¬ 8 < NK := by omega
      obtain ⟨mS, hmS⟩ : ∃ m, min a.s.length 3000 = m := ⟨_, rfl⟩
      have e3 : (if (a.s.length : Int) < 3000 then (a.s.length : Int) else 3000) = (mS : Int) := by split <;> omega
      have e4 : min (a.s.length : Int) 3000 = (mS : Int) := by omega
      have e5 : (if (3000 : Int) < (a.s.length : Int) then (3000 : Int) else (a.s.length : Int)) = (mS : Int) := by split <;> omega
      have e6 : mS ≤ 3000 := by omega
      have hI2 : Hid (∀ b ∈ l.take k, b.L.length ≤ 12 ∧ b.K.length ≤ 8 ∧ min b.s.length 3000 ≤ T + mS ∧ ∀ x ∈ b.L, min x.length 3000 ≤ T + mS) := fun b hb => by
        obtain ⟨p1, p2, p3, p4⟩ := hI.out b hb
        exact ⟨p1, p2, by omega, fun x hx => by have := p4 x hx; omega⟩
      have hx4 : Hid (∀ x ∈ a.L, x.length ≤ 140737488355328) := s4
      replace ha := Lib.hid ha
      replace hmS := Lib.hid hmS
      replace hNL := Lib.hid hNL
      replace hNK := Lib.hid hNK
      clear s4 hI
      go_wp2_with fail
      go_loop [3, 5] (fun u3 u5 => ∃ j U : Nat, j ≤ NL ∧ u5 = .int .i64 j ∧ u3 = .int .i64 U ∧ T + mS ≤ U ∧ U ≤ T + mS + j * 3000 ∧ Hid (∀ x ∈ a.L.take j, min x.length 3000 ≤ U)) (fun _ u5 => NL - (intOf u5).toNat)
      case atStart => exact ⟨0, T + mS, Nat.zero_le _, rfl, by go_num, Nat.le_refl _, by omega, fun x hx => by simp at hx⟩
      case round =>
        obtain ⟨j, U, hj, rfl, rfl, hU1, hU2, hX⟩ := hrel
        by_cases hjl : j < NL
        · have e7 : (j : Int) < (NL : Int) := by omega
          obtain ⟨x, hx⟩ : ∃ x, a.L[j]? = some x := ⟨_, List.getElem?_eq_getElem (by have := hNL.out; omega)⟩
          obtain ⟨lb, lo, hLA, hlb, hlc⟩ := hp.out.at_ hx
          rw [hLA] at c2
          have z2 := bs_size x
          have hxl := hx4.out x (List.mem_of_getElem? hx)
          obtain ⟨mx, hmx⟩ : ∃ m, min x.length 3000 = m := ⟨_, rfl⟩
          have e8 : (if (x.length : Int) < 3000 then (x.length : Int) else 3000) = (mx : Int) := by split <;> omega
          have e9 : min (x.length : Int) 3000 = (mx : Int) := by omega
          have e10 : (if (3000 : Int) < (x.length : Int) then (3000 : Int) else (x.length : Int)) = (mx : Int) := by split <;> omega
          have e11 : mx ≤ 3000 := by omega
          have hX2 : Hid (∀ y ∈ a.L.take (j + 1), min y.length 3000 ≤ U + mx) := fun y hy => by
            rw [List.take_add_one, hx] at hy
            rcases List.mem_append.1 hy with hy | hy
            · have := hX.out y hy; omega
            · simp at hy; subst hy; omega
          clear hx hmx hLA
          go_wp2_with fail
          go_round
          case rel => exact ⟨j + 1, U + mx, by omega, by go_num, by go_num, by omega, by omega, hX2⟩
          case measure => simp [intOf]; omega
        · have e7 : ¬ (j : Int) < (NL : Int) := by omega
          have hI3 : Hid (∀ b ∈ l.take (k + 1), b.L.length ≤ 12 ∧ b.K.length ≤ 8 ∧ min b.s.length 3000 ≤ U ∧ ∀ x ∈ b.L, min x.length 3000 ≤ U) := fun b hb => by
            rw [List.take_add_one, ha.out] at hb
            rcases List.mem_append.1 hb with hb | hb
            · obtain ⟨p1, p2, p3, p4⟩ := hI2.out b hb
              exact ⟨p1, p2, by omega, fun x hx => by have := p4 x hx; omega⟩
            · simp at hb; subst hb
              have h1 := hNL.out
              have h2 := hNK.out
              have h3 := hmS.out
              refine ⟨by omega, by omega, by omega, fun x hx => hX.out x ?_⟩
              rw [List.take_of_length_le (by omega)]; exact hx
          go_wp2_with fail
          go_round
          case rel => exact ⟨k + 1, U, by omega, by go_num, rfl, by omega, hI3⟩
          case measure => simp [intOf]; omega
    · have e2 : ¬ (k : Int) < (n : Int) := by omega
      have hfin : decide ((T : Int) ≤ 2000) = true → Few l := fun h => by
        have h := of_decide_eq_true h
        refine ⟨by omega, fun a ha => ?_⟩
        obtain ⟨p1, p2, p3, p4⟩ := hI.out a (by rw [List.take_of_length_le (by omega)]; exact ha)
        exact ⟨p1, p2, by omega, fun x hx => by have := p4 x hx; omega⟩
      replace hfin := Lib.hid hfin
      go_wp2_with fail
      go_ret
      exact ⟨_, rfl, hfin.out, rfl⟩
end Go.Proofs.Ytmnimcdbfolhaaa
