/- Walks of modest and sum; plain laws of changes. -/
import Derived.Test.YtminphldifncaaaDoorA6
import Derived.Test.YtminphldifncaaaDoorPL
import Derived.Test.YtminphldifncaaaDoorW14
set_option linter.unusedSimpArgs false
set_option linter.unusedVariables false
namespace Go.Proofs.YtminphldifncaaaDoor
open Go.RowKit LG
attribute [local go_sem] alloc_drewN setCell_drewN shape_drewN

def Modest (l : List Et) : Prop := l.length ≤ 40 ∧ ∀ e ∈ l, -1125899906842624 ≤ e.litres ∧ e.litres ≤ 1125899906842624
theorem Modest.in_ {l : List Et} (h : Modest l) : LitsIn l := fun e he => ⟨by have := (h.2 e he).1; omega, by have := (h.2 e he).2; omega⟩
theorem litS_bound {l : List Et} (h : ∀ e ∈ l, -1125899906842624 ≤ e.litres ∧ e.litres ≤ 1125899906842624) : -(1125899906842624 * (l.length : Int)) ≤ litS l ∧ litS l ≤ 1125899906842624 * (l.length : Int) := by
  induction l with
  | nil => simp [litS, lits]
  | cons e l ih =>
    have h1 := h e (List.mem_cons_self ..)
    have h2 := ih fun x hx => h x (List.mem_cons_of_mem _ hx)
    rw [litS_cons, List.length_cons]
    push_cast
    omega
theorem Modest.sub {l m : List Et} (h : Modest l) (h1 : m.length ≤ l.length) (h2 : ∀ e ∈ m, e ∈ l) : -45035996273704960 ≤ litS m ∧ litS m ≤ 45035996273704960 := by
  have h3 := litS_bound (l := m) fun e he => h.2 e (h2 e he)
  have h4 := h.1
  have : (m.length : Int) ≤ 40 := by omega
  omega
/-- The account of modest entries is their plain sum. -/
theorem account_sum {l : List Et} (h : Modest l) (owner place day known : Int) : account l owner place day known = litS (l.filter (accB owner place day known)) := by
  have h1 := h.sub (m := l.filter (accB owner place day known)) (List.length_filter_le _ _) (fun e he => (List.mem_filter.1 he).1)
  unfold account sumX
  have h2 : inB (lits (l.filter (accB owner place day known))).sum = true := by
    unfold inB
    rw [Bool.and_eq_true, decide_eq_true_eq, decide_eq_true_eq]
    have h3 : litS (l.filter (accB owner place day known)) = (lits (l.filter (accB owner place day known))).sum := rfl
    omega
  rw [if_pos h2]
  rfl
theorem lit_split (p q : Et → Bool) (l : List Et) (h : ∀ e ∈ l, q e = true → p e = true) : litS (l.filter p) = litS (l.filter q) + litS (l.filter fun e => p e && !q e) := by
  induction l with
  | nil => rfl
  | cons e l ih =>
    have ih := ih fun x hx => h x (List.mem_cons_of_mem _ hx)
    have he := h e (List.mem_cons_self ..)
    cases hp : p e
    · have hq : q e = false := by
        cases hq : q e
        · rfl
        · rw [he hq] at hp; cases hp
      rw [List.filter_cons_of_neg (by simp [hp]), List.filter_cons_of_neg (by simp [hq]), List.filter_cons_of_neg (by simp [hp])]
      exact ih
    · cases hq : q e
      · rw [List.filter_cons_of_pos hp, List.filter_cons_of_neg (by simp [hq]), List.filter_cons_of_pos (by simp [hp, hq]), litS_cons, litS_cons, ih]
        omega
      · rw [List.filter_cons_of_pos hp, List.filter_cons_of_pos hq, List.filter_cons_of_neg (by simp [hp, hq]), litS_cons, litS_cons, ih]
        omega
theorem change_litS {l : List Et} (h : Modest l) (owner day one two : Int) (h12 : one ≤ two) : litS (changeR l owner day one two) = account l owner (-1) day two - account l owner (-1) day one := by
  rw [account_sum h, account_sum h]
  unfold changeR
  rw [litS_perm (ST.insSort_stab ltKnown swoKnown (l.filter (chgB owner day one two))).perm]
  have h1 := lit_split (accB owner (-1) day two) (accB owner (-1) day one) l fun e _ he => by
    unfold accB at he ⊢
    simp only [Bool.and_eq_true, decide_eq_true_eq] at he ⊢
    refine ⟨⟨⟨he.1.1.1, by omega⟩, he.1.2⟩, he.2⟩
  have h2 : l.filter (fun e => accB owner (-1) day two e && !accB owner (-1) day one e) = l.filter (chgB owner day one two) := by
    apply List.filter_congr
    intro e _
    unfold accB chgB
    rw [Bool.eq_iff_iff]
    simp
    constructor
    · rintro ⟨⟨⟨a, b⟩, c⟩, d⟩
      refine ⟨⟨⟨c, a⟩, ?_⟩, b⟩
      rcases d with (d | d) | d
      · omega
      · exact d
      · rcases c with c | c
        · exact absurd c d.1
        · exact absurd c d.2
    · rintro ⟨⟨⟨c, a⟩, q⟩, b⟩
      exact ⟨⟨⟨a, b⟩, c⟩, .inl (.inr q)⟩
  rw [h2] at h1
  omega
theorem change_cut (l : List Et) (owner day one mid two : Int) (h1 : one ≤ mid) (h2 : mid ≤ two) : changeR l owner day one two = changeR l owner day one mid ++ changeR l owner day mid two := by
  have A := ST.insSort_stab ltKnown swoKnown (l.filter (chgB owner day one mid))
  have B := ST.insSort_stab ltKnown swoKnown (l.filter (chgB owner day mid two))
  have kA : ∀ e ∈ changeR l owner day one mid, e.known ≤ mid := fun e he => by
    have := (List.mem_filter.1 (A.perm.mem_iff.1 he)).2
    unfold chgB at this
    simp only [Bool.and_eq_true, decide_eq_true_eq] at this
    exact this.2
  have kB : ∀ e ∈ changeR l owner day mid two, mid < e.known := fun e he => by
    have := (List.mem_filter.1 (B.perm.mem_iff.1 he)).2
    unfold chgB at this
    simp only [Bool.and_eq_true, decide_eq_true_eq] at this
    exact this.1.2
  have hsp : ∀ e, chgB owner day one two e = (chgB owner day one mid e || chgB owner day mid two e) := fun e => by
    unfold chgB
    rw [Bool.eq_iff_iff]
    simp
    constructor
    · rintro ⟨⟨⟨a, b⟩, c⟩, d⟩
      rcases Int.lt_or_le mid e.known with q | q
      · exact .inr ⟨⟨⟨a, b⟩, q⟩, d⟩
      · exact .inl ⟨⟨⟨a, b⟩, c⟩, q⟩
    · rintro (⟨⟨⟨a, b⟩, c⟩, d⟩ | ⟨⟨⟨a, b⟩, c⟩, d⟩)
      · exact ⟨⟨⟨a, b⟩, c⟩, by omega⟩
      · exact ⟨⟨⟨a, b⟩, by omega⟩, d⟩
  refine ST.Stab.eq ltKnown swoKnown (ST.insSort_stab ltKnown swoKnown (l.filter (chgB owner day one two))) ⟨?_, ?_, fun e => ?_⟩
  · refine (A.perm.append B.perm).trans ?_
    have := GI.disj_perm (chgB owner day one mid) (chgB owner day mid two) l fun e _ he => by
      unfold chgB at he ⊢
      simp only [Bool.and_eq_true, decide_eq_true_eq] at he
      rw [Bool.eq_false_iff]
      simp
      intro _ _ hq
      omega
    refine this.trans ?_
    rw [List.filter_congr fun e _ => (hsp e).symm]
  · refine List.pairwise_append.2 ⟨A.asc, B.asc, fun x hx y hy => ?_⟩
    have := kA x hx
    have := kB y hy
    simp [ltKnown]; omega
  · rw [List.filter_append]
    rcases Int.lt_or_le mid e.known with q | q
    · have h3 : (changeR l owner day one mid).filter (ST.eqv ltKnown e) = [] := by
        rw [List.filter_eq_nil_iff]
        intro x hx hk
        have := kA x hx
        simp [ST.eqv, ltKnown] at hk
        omega
      have h4 := B.keep e
      show (changeR l owner day one mid).filter (ST.eqv ltKnown e) ++ (changeR l owner day mid two).filter (ST.eqv ltKnown e) = _
      rw [h3, List.nil_append]
      refine h4.trans ?_
      rw [List.filter_filter, List.filter_filter]
      apply List.filter_congr
      intro x _
      cases hk : ST.eqv ltKnown e x
      · simp
      · simp only [Bool.true_and]
        simp [ST.eqv, ltKnown] at hk
        rw [hsp x]
        have : chgB owner day one mid x = false := by
          unfold chgB; rw [Bool.eq_false_iff]; simp; intro _ _ _; omega
        rw [this, Bool.false_or]
    · have h3 : (changeR l owner day mid two).filter (ST.eqv ltKnown e) = [] := by
        rw [List.filter_eq_nil_iff]
        intro x hx hk
        have := kB x hx
        simp [ST.eqv, ltKnown] at hk
        omega
      have h4 := A.keep e
      show (changeR l owner day one mid).filter (ST.eqv ltKnown e) ++ (changeR l owner day mid two).filter (ST.eqv ltKnown e) = _
      rw [h3, List.append_nil]
      refine h4.trans ?_
      rw [List.filter_filter, List.filter_filter]
      apply List.filter_congr
      intro x _
      cases hk : ST.eqv ltKnown e x
      · simp
      · simp only [Bool.true_and]
        simp [ST.eqv, ltKnown] at hk
        rw [hsp x]
        have : chgB owner day mid two x = false := by
          unfold chgB; rw [Bool.eq_false_iff]; simp; intro _ _ hq; omega
        rw [this, Bool.or_false]
def ModIs (l : List Et) (w : World) (e : Ending) (w' : World) : Prop := ∃ fb, e = .returned (.bool fb) ∧ (fb = true → Modest l) ∧ w = w'
set_option maxHeartbeats 1000000 in
theorem modest_any (l : List Et) (C : Option Addr) (cc : Nat) (w : World) {B : Nat} (hC : EntsAt w B C l) (hB : B ≤ w.heap.size) (hl : l.length ≤ 9223372036854775807) :
    Calls Tryd.prog 23 #[.slice C l.length cc] w (ModIs l w) := by
  obtain ⟨n, hn⟩ : ∃ n, l.length = n := ⟨_, rfl⟩
  have hM : Hid (Modest l ↔ (n ≤ 40 ∧ ∀ e ∈ l, -1125899906842624 ≤ e.litres ∧ e.litres ≤ 1125899906842624)) := by show _ ↔ _; rw [← hn]; rfl
  have hnn := Lib.hid hn
  rw [hn] at hl ⊢
  clear hn
  go_enter Tryd.func23, Tryd.ntmps23
  go_wp2_with fail
  go_loop [3] (fun u3 => ∃ k : Nat, k ≤ n ∧ u3 = .int .i64 k ∧ Hid (∀ e ∈ l.take k, -1125899906842624 ≤ e.litres ∧ e.litres ≤ 1125899906842624)) (fun u3 => n - (intOf u3).toNat)
  case atStart => exact ⟨0, Nat.zero_le _, rfl, fun e he => by simp at he⟩
  case round =>
    obtain ⟨k, hk, rfl, hI⟩ := hrel
    by_cases hlt : k < n
    · obtain ⟨e, hx⟩ : ∃ e, l[k]? = some e := ⟨_, List.getElem?_eq_getElem (by have := hnn.out; omega)⟩
      obtain ⟨b, off, rfl, hb, r0, r1, r2, r3, r4, r5, r6⟩ := hC.at_ hx
      have hbw : b < w.heap.size := by omega
      have hX := Lib.hid hx
      clear hx
      by_cases h1 : e.litres < -1125899906842624
      · have d1 : decide (e.litres < -1125899906842624) = true := decide_eq_true h1
        go_wp2_with fail
        go_ret
        exact ⟨false, rfl, fun h => (by cases h), rfl⟩
      by_cases h2 : 1125899906842624 < e.litres
      · have d1 : decide (e.litres < -1125899906842624) = false := decide_eq_false h1
        have d2 : decide (1125899906842624 < e.litres) = true := decide_eq_true h2
        go_wp2_with fail
        go_ret
        exact ⟨false, rfl, fun h => (by cases h), rfl⟩
      have d1 : decide (e.litres < -1125899906842624) = false := decide_eq_false h1
      have d2 : decide (1125899906842624 < e.litres) = false := decide_eq_false h2
      go_wp2_with fail
      go_round
      case rel => exact ⟨k + 1, by omega, by go_num, fun x hx => by
        rw [List.take_add_one, hX.out] at hx
        rcases List.mem_append.1 hx with q | q
        · exact hI.out x q
        · simp at q; subst q; exact ⟨by omega, by omega⟩⟩
      case measure => simp [intOf]; omega
    · have hke : k = n := by omega
      subst hke
      have hI2 : Hid (∀ e ∈ l, -1125899906842624 ≤ e.litres ∧ e.litres ≤ 1125899906842624) := fun e he => hI.out e (by rw [List.take_of_length_le (by have := hnn.out; omega)]; exact he)
      go_wp2_with fail
      go_ret
      exact ⟨_, rfl, fun h => hM.out.2 ⟨by have := of_decide_eq_true h; omega, hI2.out⟩, rfl⟩
set_option maxHeartbeats 1000000 in
theorem sumw_any (l : List Et) (C : Option Addr) (cc : Nat) (w : World) {B : Nat} (hC : EntsAt w B C l) (hB : B ≤ w.heap.size) (hM : Modest l) :
    Calls Tryd.prog 24 #[.slice C l.length cc] w fun e w' => e = .returned (.int .i64 (litS l)) ∧ w = w' := by
  obtain ⟨n, hn⟩ : ∃ n, l.length = n := ⟨_, rfl⟩
  have hn40 : n ≤ 40 := by have := hM.1; omega
  have hnn := Lib.hid hn
  have hMh := Lib.hid hM
  clear hM
  rw [hn]
  clear hn
  have hbd : Hid (∀ k, -45035996273704960 ≤ litS (l.take k) ∧ litS (l.take k) ≤ 45035996273704960) := fun k => hMh.out.sub (by rw [List.length_take]; omega) (fun e he => List.mem_of_mem_take he)
  go_enter Tryd.func24, Tryd.ntmps24
  go_wp2_with fail
  go_loop [3, 4] (fun u3 u4 => ∃ (k : Nat) (S : Int), k ≤ n ∧ u4 = .int .i64 k ∧ u3 = .int .i64 S ∧ Hid (litS (l.take k) = S)) (fun _ u4 => n - (intOf u4).toNat)
  case atStart => exact ⟨0, 0, Nat.zero_le _, rfl, rfl, by show litS _ = _; rw [List.take_zero]; rfl⟩
  case round =>
    obtain ⟨k, S, hk, rfl, rfl, hS⟩ := hrel
    by_cases hlt : k < n
    · obtain ⟨e, hx⟩ : ∃ e, l[k]? = some e := ⟨_, List.getElem?_eq_getElem (by have := hnn.out; omega)⟩
      obtain ⟨b, off, rfl, hb, r0, r1, r2, r3, r4, r5, r6⟩ := hC.at_ hx
      have hbw : b < w.heap.size := by omega
      have hs2 : Hid (litS (l.take (k + 1)) = S + e.litres) := by
        show _ = _
        rw [List.take_add_one, hx, litS_append, hS.out]
        simp [litS, lits]
      have hb1 := hbd.out (k + 1)
      rw [hs2.out] at hb1
      have hwr : wrap64 (S + e.litres) = S + e.litres := IntWalk.wrap64_in _ (by omega)
      clear hx
      go_wp2_with fail
      go_round
      case rel => exact ⟨k + 1, S + e.litres, by omega, by go_num, by first | rfl | rw [hwr], hs2⟩
      case measure => simp [intOf]; omega
    · have hke : k = n := by omega
      subst hke
      have hf : Hid (litS l = S) := by show _ = _; rw [← hS.out, List.take_of_length_le (by have := hnn.out; omega)]
      go_wp2_with fail
      go_ret
      exact ⟨ret_int hf.out.symm, rfl⟩
end Go.Proofs.YtminphldifncaaaDoor
