/- Joined of: SM0. -/
import Derived.Test.YtphebdmdbnpokaaR7
import Derived.Test.YtphebdmdbnpokaaG12
/- Plain facts of the small examples: the way in a chain of two roads, the room behind one of them. -/
set_option linter.unusedSimpArgs false
set_option linter.unusedVariables false
namespace Go.Proofs.Ytphebdmdbnpokaa
open RD FM
theorem RD.at_inv {N P : Nat} {VS : Vs} {R : List Rd} {town v h : Nat} (a : At N P VS R town v h) : (v = town ∧ h = 0) ∨ ∃ r ∈ R, usableB N P r = true ∧ ∃ b t, At N P VS R town r.frm.toNat b ∧ b ≤ t ∧ poss VS r t ∧ v = r.to_.toNat ∧ h = t + r.hours.toNat := by
  cases a with
  | start => exact .inl ⟨rfl, rfl⟩
  | go h1 h2 h3 h4 h5 => exact .inr ⟨_, h1, h2, _, _, h3, h4, h5, rfl, rfl⟩
def sr0 : Rd := ⟨⟨#[]⟩, 0, 1, 2, 3, 0, 10⟩
def sr1 : Rd := ⟨⟨#[]⟩, 1, 2, 1, 4, -1, 0⟩
theorem sr0_us : usableB 3 1 sr0 = true := by unfold usableB sr0; decide
theorem sr1_us : usableB 3 1 sr1 = true := by unfold usableB sr1; decide
theorem sr1_pass (V : List Int) : passB sr1 V = true := rfl
theorem sr1_poss (VS : Vs) (t : Nat) : poss VS sr1 t := fun _ _ => rfl
section
variable {VS : Vs}
theorem small_at0 {h : Nat} (a : At 3 1 VS [sr0, sr1] 0 0 h) : h = 0 := by
  rcases at_inv a with ⟨_, e⟩ | ⟨r, hr, _, b, t, _, _, _, e, _⟩
  · exact e
  · simp at hr
    rcases hr with rfl | rfl <;> simp [sr0, sr1] at e
theorem small_at1 {h : Nat} (a : At 3 1 VS [sr0, sr1] 0 1 h) : ∃ t, poss VS sr0 t ∧ h = t + 2 := by
  rcases at_inv a with ⟨e, _⟩ | ⟨r, hr, _, b, t, hb, hbt, hp, e, e2⟩
  · omega
  · simp at hr
    rcases hr with rfl | rfl
    · exact ⟨t, hp, by simpa [sr0] using e2⟩
    · simp [sr1] at e
theorem small_at2 {h : Nat} (a : At 3 1 VS [sr0, sr1] 0 2 h) : ∃ b t, At 3 1 VS [sr0, sr1] 0 1 b ∧ b ≤ t ∧ h = t + 1 := by
  rcases at_inv a with ⟨e, _⟩ | ⟨r, hr, _, b, t, hb, hbt, hp, e, e2⟩
  · omega
  · simp at hr
    rcases hr with rfl | rfl
    · simp [sr0] at e
    · exact ⟨b, t, by simpa [sr1] using hb, hbt, by simpa [sr1] using e2⟩
theorem small_way {s : Nat} (hs : IsLeave VS sr0 0 s) : WayR 3 1 2 VS [sr0, sr1] 0 [0, 1, 2] true := by
  have h1 : At 3 1 VS [sr0, sr1] 0 1 (s + 2) := by
    have := At.go (N := 3) (P := 1) (VS := VS) (R := [sr0, sr1]) (town := 0) (r := sr0) (a := 0) (t := s) (by simp) sr0_us .start (Nat.zero_le _) hs.2.1
    simpa [sr0] using this
  have a1 : IsArr 3 1 VS [sr0, sr1] 0 1 (s + 2) := ⟨h1, fun k hk => by
    obtain ⟨t, ht, rfl⟩ := small_at1 hk
    have := hs.2.2 t (Nat.zero_le _) ht; omega⟩
  have h2 : At 3 1 VS [sr0, sr1] 0 2 (s + 3) := by
    have := At.go (N := 3) (P := 1) (VS := VS) (R := [sr0, sr1]) (town := 0) (r := sr1) (a := s + 2) (t := s + 2) (by simp) sr1_us (by simpa [sr1] using h1) (Nat.le_refl _) (sr1_poss _ _)
    simpa [sr1] using this
  have a2 : IsArr 3 1 VS [sr0, sr1] 0 2 (s + 3) := ⟨h2, fun k hk => by
    obtain ⟨b, t, hb, hbt, rfl⟩ := small_at2 hk
    have := a1.2 b hb; omega⟩
  have b2 : bef 3 1 VS (arr 3 1 VS [sr0, sr1] 0) [sr0, sr1] 2 = 1 := by
    obtain ⟨r, hr, _, hv, hb, _⟩ := bef_of_arr (by omega) a2
    simp at hr
    rcases hr with rfl | rfl
    · simp [sr0] at hv
    · rw [hb]; rfl
  have b1 : bef 3 1 VS (arr 3 1 VS [sr0, sr1] 0) [sr0, sr1] 1 = 0 := by
    obtain ⟨r, hr, _, hv, hb, _⟩ := bef_of_arr (by omega) a1
    simp at hr
    rcases hr with rfl | rfl
    · rw [hb]; rfl
    · simp [sr1] at hv
  refine .inr ⟨rfl, by omega, by omega, 2, ?_, ?_⟩
  · show best (arr 3 1 VS [sr0, sr1] 0) 2 1 = _
    have e2 := arr_is a2
    rcases best_cases (arr 3 1 VS [sr0, sr1] 0) 2 1 with ⟨_, h⟩ | ⟨b, h, h1, h2, _⟩
    · have := h 2 (Nat.le_refl _) (by omega); omega
    · rw [h]; obtain rfl : b = 2 := by omega
      rfl
  · have c1 : Chain (bef 3 1 VS (arr 3 1 VS [sr0, sr1] 0) [sr0, sr1]) 0 1 ([0] ++ [1]) := .go (v := 1) (by decide) (by rw [b1]; omega) (by rw [b1]; exact .stop)
    exact .go (town := 0) (l := [0] ++ [1]) (v := 2) (by decide) (by show 0 ≤ bef 3 1 VS (arr 3 1 VS [sr0, sr1] 0) [sr0, sr1] 2; rw [b2]; omega) (by show Chain _ _ (bef 3 1 VS (arr 3 1 VS [sr0, sr1] 0) [sr0, sr1] 2).toNat _; rw [b2]; exact c1)
theorem small_none (h : ∀ t, ¬ poss VS sr0 t) : WayR 3 1 2 VS [sr0, sr1] 0 [] false := by
  have n1 : ∀ k, ¬ At 3 1 VS [sr0, sr1] 0 1 k := fun k hk => by obtain ⟨t, ht, _⟩ := small_at1 hk; exact h t ht
  have n2 : ∀ k, ¬ At 3 1 VS [sr0, sr1] 0 2 k := fun k hk => by obtain ⟨b, t, hb, _⟩ := small_at2 hk; exact n1 b hb
  refine .inl ⟨rfl, rfl, .inr (.inr ?_)⟩
  show best (arr 3 1 VS [sr0, sr1] 0) 2 1 = _
  have e2 := arr_none n2
  rcases best_cases (arr 3 1 VS [sr0, sr1] 0) 2 1 with ⟨h, _⟩ | ⟨b, h, h1, h2, h3, _⟩
  · exact h
  · obtain rfl : b = 2 := by omega
    omega
end
theorem sr0_pass (V : List Int) : passB sr0 V = decide (V.getD 0 0 ≤ 10) := rfl
theorem small_leave0 : IsLeave [] sr0 0 0 := ⟨Nat.le_refl _, fun i _ => by
  have : volsAt [] (0 + i) = [] := by unfold volsAt; simp
  rw [this]; rfl, fun u _ _ => Nat.zero_le u⟩
theorem small_leave1 : IsLeave [[20], [5], [5]] sr0 0 1 := by
  refine ⟨by omega, fun i hi => ?_, fun u _ h => ?_⟩
  · have hi : i < 2 := hi
    have : i = 0 ∨ i = 1 := by omega
    rcases this with rfl | rfl <;> rfl
  · rcases Nat.eq_zero_or_pos u with rfl | hu
    · have := h 0 (by show 0 < 2; omega)
      have e : passB sr0 (volsAt [[20], [5], [5]] (0 + 0)) = false := rfl
      rw [e] at this; cases this
    · exact hu
theorem small_leave2 (t : Nat) : ¬ poss [[5], [20]] sr0 t := fun h => by
  have h1 := h 1 (by show 1 < 2; omega)
  have e : volsAt [[5], [20]] (t + 1) = [20] := by
    rw [volsAt_end (by simp)]; rfl
  rw [e] at h1
  cases h1
def smT : List Tn := [⟨⟨#[]⟩, 0, 0, 0, 9, 0, 0⟩, ⟨⟨#[]⟩, 0, 0, 0, 5, 0, 0⟩]
def smS : List Sh := [⟨⟨#[]⟩, 20⟩]
theorem small_net (op : Rd → Bool) (h1 : op sr1 = true) : net 3 smT [sr0, sr1] smS op 1 = [(3, 0, 9), (3, 1, 5)] ++ ((if op sr0 = true then [(0, 1, 3)] else []) ++ [(1, 2, 4), (2, 4, 20)]) := by
  have e1 : roadA op 1 [sr0, sr1] = (if op sr0 = true then [(0, 1, 3)] else []) ++ [(1, 2, 4)] := by
    by_cases h0 : op sr0 = true
    · rw [if_pos h0]; simp only [roadA, List.filter, h0, h1]; rfl
    · rw [if_neg h0]
      have h0 : op sr0 = false := by simpa using h0
      simp only [roadA, List.filter, h0, h1]; rfl
  unfold net
  rw [e1]
  have e2 : townA 3 0 smT = [(3, 0, 9), (3, 1, 5)] := rfl
  have e3 : shA 3 smT.length smS = [(2, 4, 20)] := rfl
  rw [e2, e3, List.append_assoc]; rfl
theorem small_max {op : Rd → Bool} (h1 : op sr1 = true) {f : List Int} {v : Int} {Q : Int → Bool} (m : MaxOf 5 (net 3 smT [sr0, sr1] smS op 1) 3 4 f v Q) : v = 4 ∧ townsOf 2 (FL.sideL 5 Q) = [0, 1] := by
  rw [small_net op h1] at m
  obtain ⟨A, hA⟩ : ∃ A, A = ([(3, 0, 9), (3, 1, 5)] ++ ((if op sr0 = true then [(0, 1, 3)] else []) ++ [(1, 2, 4), (2, 4, 20)]) : List Arc) := ⟨_, rfl⟩
  rw [← hA] at m
  have hin : inN 5 A := fun a ha => by
    rw [hA] at ha
    split at ha <;> simp at ha <;> rcases ha with rfl | rfl | rfl | rfl | rfl <;> simp
  have le := m.le_cut hin (by omega) (by omega) (S := fun v => v == 3 || v == 0 || v == 1) (by simp) (by simp)
  have hcut : cut A (fun v => v == 3 || v == 0 || v == 1) = 4 := by rw [hA]; split <;> simp [cut, ind]
  rw [hcut] at le
  have ge : 4 ≤ v := by
    by_cases h0 : op sr0 = true
    · rw [if_pos h0] at hA
      have := m.flow_le hin (by omega) (by omega) (g := [0, 4, 0, 4, 4]) (by rw [hA]; simp [feas]) (fun u g1 g2 => by
        have h3 : ((3 : Int) == u) = false := by rw [beq_eq_false_iff_ne]; omega
        have h4 : ((4 : Int) == u) = false := by rw [beq_eq_false_iff_ne]; omega
        rw [hA]; simp only [List.cons_append, List.nil_append, exc, h3, h4]; simp only [ind, Bool.false_eq_true, if_false]; omega)
      have e3 : exc A [0, 4, 0, 4, 4] 3 = 4 := by rw [hA]; simp [exc, ind]
      omega
    · rw [if_neg h0] at hA
      have := m.flow_le hin (by omega) (by omega) (g := [0, 4, 4, 4]) (by rw [hA]; simp [feas]) (fun u g1 g2 => by
        have h3 : ((3 : Int) == u) = false := by rw [beq_eq_false_iff_ne]; omega
        have h4 : ((4 : Int) == u) = false := by rw [beq_eq_false_iff_ne]; omega
        rw [hA]; simp only [List.cons_append, List.nil_append, exc, h3, h4]; simp only [ind, Bool.false_eq_true, if_false]; omega)
      have e3 : exc A [0, 4, 4, 4] 3 = 4 := by rw [hA]; simp [exc, ind]
      omega
  have hv : v = 4 := by omega
  refine ⟨hv, ?_⟩
  have near := m.nearest hin (by omega) (by omega) (S := fun v => v == 3 || v == 0 || v == 1) (by simp) (by simp) (by rw [hcut, hv])
  have c := m.cut hin (by omega) (by omega)
  rw [hv] at c
  have q3 : Q 3 = true := m.src
  have q4 : Q 4 = false := m.snk
  have q2 : Q 2 = false := by
    cases e : Q 2
    · rfl
    · have := near 2 e; simp at this
  have q01 : Q 0 = true ∧ Q 1 = true := by
    rw [hA] at c
    cases e0 : Q 0 <;> cases e1 : Q 1 <;> split at c <;> simp [cut, ind, q2, q3, q4, e0, e1] at c ⊢
  have e : FL.sideL 5 Q = [0, 1, 3] := by
    unfold FL.sideL
    have : List.range 5 = [0, 1, 2, 3, 4] := rfl
    rw [this]
    simp [List.filter, q01.1, q01.2, q2, q3, q4]
  rw [e]; rfl
end Go.Proofs.Ytphebdmdbnpokaa

