/- Plain laws: the rows of a file of records after a crash. -/
import Derived.Test.YtmnimcdbfolhaaaCV
set_option linter.unusedSimpArgs false
set_option linter.unusedVariables false
namespace Go.Proofs.Ytmnimcdbfolhaaa
namespace DK
theorem aft_tail (keep : List Int) (d : Bts) (f : Nat) : ∀ (q : List Pd) (i : Nat) (s : Bts) (g : Nat), aft keep d f i q s g = s ∨ ∃ u, aft keep d f i q s g = s ++ (List.replicate g 0 ++ u)
  | [], i, s, g => .inl rfl
  | p :: q, i, s, g => by
    unfold aft
    by_cases hp : p.file = f
    · rw [if_pos hp]
      by_cases h0 : 0 < kept keep i p
      · rw [if_pos h0]
        rcases aft_tail keep d f q (i + 1) (s ++ List.replicate g 0 ++ (seg d p).take (kept keep i p)) (p.un - p.fr - kept keep i p) with e | ⟨u, e⟩
        · exact .inr ⟨_, by rw [e, List.append_assoc]⟩
        · exact .inr ⟨_, by rw [e, List.append_assoc, List.append_assoc]⟩
      · rw [if_neg h0]
        rcases aft_tail keep d f q (i + 1) s (g + (p.un - p.fr)) with e | ⟨u, e⟩
        · exact .inl e
        · exact .inr ⟨List.replicate (p.un - p.fr) 0 ++ u, by rw [e, ← List.replicate_append_replicate, List.append_assoc]⟩
    · rw [if_neg hp]; exact aft_tail keep d f q (i + 1) s g
theorem recd_get (x : Bts) (j : Nat) : j < x.length + 7 → ∃ b, (recd x)[j]? = some b := fun h => ⟨_, List.getElem?_eq_getElem (by rw [recd_len]; omega)⟩
theorem recd_0 (x : Bts) : (recd x)[0]? = some 87 := rfl
theorem recd_last (x : Bts) : (recd x)[x.length + 6]? = some 233 := by
  show (87 :: (chk x ++ [byteN (crc (chk x) / 256), byteN (crc (chk x)), 233]))[x.length + 5 + 1]? = _
  rw [List.getElem?_cons_succ, List.getElem?_append_right (by simp [chk, len3])]
  have : x.length + 5 - (chk x).length = 2 := by simp [chk, len3] <;> omega
  rw [this]; rfl
/-- A record that did not survive as a whole is none. -/
theorem torn_no {x : Bts} (hx : x.length ≤ 1048576) {n : Nat} (hn : n < x.length + 7) {t : Bts} (ht : t = (recd x).take n ∨ ∃ u, t = (recd x).take n ++ (List.replicate (x.length + 7 - n) 0 ++ u)) : noRow t := by
  rintro y ⟨hy, r, e⟩
  have hl : ((recd x).take n).length = n := by rw [List.length_take, recd_len]; omega
  have lo : ∀ j, j < n → t[j]? = (recd x)[j]? := fun j hj => by
    rcases ht with rfl | ⟨u, rfl⟩
    · exact List.getElem?_take_of_lt hj
    · rw [List.getElem?_append_left (by omega)]; exact List.getElem?_take_of_lt hj
  have hi : ∀ j b, n ≤ j → j < x.length + 7 → t[j]? = some b → b = 0 := fun j b h1 h2 h => by
    rcases ht with rfl | ⟨u, rfl⟩
    · rw [List.getElem?_eq_none (by omega)] at h; cases h
    · rw [List.getElem?_append_right (by omega), hl, List.getElem?_append_left (by rw [List.length_replicate]; omega), List.getElem?_replicate] at h
      rw [if_pos (by omega)] at h; injection h with h; exact h.symm
  have ty : ∀ j, j < y.length + 7 → t[j]? = (recd y)[j]? := fun j hj => by rw [e, List.getElem?_append_left (by rw [recd_len]; omega)]
  have small : ∀ j, j < 7 → (t.getD j 0).toNat ≤ ((recd x).getD j 0).toNat := fun j hj => by
    rw [List.getD_eq_getElem?_getD, List.getD_eq_getElem?_getD]
    by_cases h : j < n
    · rw [lo j h]; exact Nat.le_refl _
    · cases hb : t[j]? with
      | none => exact Nat.zero_le _
      | some b => rw [hi j b (by omega) (by omega) hb]; exact Nat.zero_le _
  have toldt : told t ≤ x.length := by
    have h1 := small 1 (by omega)
    have h2 := small 2 (by omega)
    have h3 := small 3 (by omega)
    have h4 := told_recd hx ([] : Bts)
    rw [List.append_nil] at h4
    unfold told at h4 ⊢
    omega
  have hyl : y.length = told t := by rw [e]; exact (told_recd hy r).symm
  have hlast := ty (y.length + 6) (by omega)
  rw [recd_last] at hlast
  have hge : n ≤ y.length + 6 := by
    rcases Nat.lt_or_ge n 4 with h | h
    · omega
    · have : told t = x.length := by
        have h4 := told_recd hx ([] : Bts)
        rw [List.append_nil] at h4
        rw [← h4]; unfold told
        simp only [List.getD_eq_getElem?_getD, lo 1 (by omega), lo 2 (by omega), lo 3 (by omega)]
      omega
  have := hi _ _ hge (by omega) hlast
  cases this
/-- How many of the first appends of a file survive as a whole. -/
def lead (keep : List Int) (f : Nat) : Nat → List Pd → Nat
  | _, [] => 0
  | i, p :: q => if p.file = f then (if kept keep i p = p.un - p.fr then lead keep f (i + 1) q + 1 else 0) else lead keep f (i + 1) q
theorem rows_aft (keep : List Int) (d : Bts) (f : Nat) : ∀ (q : List Pd) (i : Nat) (R X : List Bts), (∀ x ∈ R, x.length ≤ 1048576) → (∀ x ∈ X, x.length ≤ 1048576) → (∀ p ∈ q, p.file = f → p.fr ≤ p.un ∧ p.un ≤ d.length) → (ofF f q).map (seg d) = X.map recd →
    rowsOf (aft keep d f i q (recs R) 0) = R ++ X.take (lead keep f i q)
  | [], i, R, X, hR, hX, hq, hs => by
    have : X = [] := by cases X with | nil => rfl | cons x X => simp [ofF] at hs
    subst this
    show rowsOf (recs R) = _
    rw [rowsOf_recs hR]; simp
  | p :: q, i, R, X, hR, hX, hq, hs => by
    rw [ofF_cons] at hs
    have hq' : ∀ p ∈ q, p.file = f → p.fr ≤ p.un ∧ p.un ≤ d.length := fun r hr => hq r (by simp [hr])
    by_cases hp : p.file = f
    · rw [if_pos hp] at hs
      obtain ⟨h1, h2⟩ := hq p (by simp) hp
      cases X with
      | nil => simp at hs
      | cons x X =>
        rw [List.map_cons, List.map_cons] at hs
        injection hs with hs1 hs2
        have hx := hX x (by simp)
        have hsl : p.un - p.fr = x.length + 7 := by
          have := congrArg List.length hs1
          rw [recd_len] at this
          unfold seg at this
          rw [List.length_take, List.length_drop] at this
          omega
        have hk := kept_le (keep := keep) (i := i) (p := p) h1
        unfold aft lead
        rw [if_pos hp, if_pos hp, hs1]
        by_cases hf : kept keep i p = p.un - p.fr
        · rw [if_pos hf, if_pos (by omega), hf, hsl, Nat.sub_self, List.replicate_zero, List.append_nil]
          have e : recs R ++ (recd x).take (x.length + 7) = recs (R ++ [x]) := by
            rw [List.take_of_length_le (by rw [recd_len]; exact Nat.le_refl _), recs_snoc]
          rw [e, rows_aft keep d f q (i + 1) (R ++ [x]) X (fun y hy => ?_) (fun y hy => hX y (by simp [hy])) hq' hs2]
          · simp
          · rcases List.mem_append.1 hy with hy | hy
            · exact hR y hy
            · obtain rfl := List.mem_singleton.1 hy; exact hx
        · rw [if_neg hf, List.take_zero, List.append_nil]
          obtain ⟨n, hn⟩ : ∃ n, kept keep i p = n := ⟨_, rfl⟩
          rw [hn] at hk hf
          rw [hn]
          have fin : ∀ t, (t = (recd x).take n ∨ ∃ u, t = (recd x).take n ++ (List.replicate (x.length + 7 - n) 0 ++ u)) → rowsOf (recs R ++ t) = R := fun t ht => by
            rw [rows_app hR, rowsOf_eq (x := t) (l := []) ⟨fun _ h => (by cases h), t, rfl, torn_no hx (by omega) ht⟩, List.append_nil]
          by_cases h0 : 0 < n
          · rw [if_pos h0, List.replicate_zero, List.append_nil]
            rcases aft_tail keep d f q (i + 1) (recs R ++ (recd x).take n) (p.un - p.fr - n) with e | ⟨u, e⟩
            · rw [e]; exact fin _ (.inl rfl)
            · rw [e, List.append_assoc, hsl]; exact fin _ (.inr ⟨u, rfl⟩)
          · rw [if_neg h0]
            have hn0 : n = 0 := by omega
            subst hn0
            rcases aft_tail keep d f q (i + 1) (recs R) (0 + (p.un - p.fr)) with e | ⟨u, e⟩
            · rw [e, show recs R = recs R ++ [] by simp]; exact fin _ (.inl rfl)
            · rw [e, Nat.zero_add, hsl]; exact fin _ (.inr ⟨u, rfl⟩)
    · rw [if_neg hp] at hs
      unfold aft lead
      rw [if_neg hp, if_neg hp]
      exact rows_aft keep d f q (i + 1) R X hR hX hq' hs
/-- A file of records of which the first are durable and each other waits alone. -/
structure Recs (s : St) (f : Nat) (R X : List Bts) : Prop where
  len : ∀ x ∈ R ++ X, x.length ≤ 1048576
  data : s.data f = recs (R ++ X)
  dur : s.dur f = (recs R).length
  segs : (ofF f s.q).map (seg (s.data f)) = X.map recd
theorem crash_rows {s : St} (hk : Ok s) (hc : Cov s) (hd : s.down = false) {f : Nat} (hf : f < 8) {R X : List Bts} (h : Recs s f R X) (keep : List Int) : rowsOf ((crash s keep).data f) = R ++ X.take (lead keep f 0 s.q) := by
  rw [crash_aft hk hc hd keep hf]
  have e : (s.data f).take (s.dur f) = recs R := by rw [h.data, h.dur, recs_app, List.take_left]
  rw [e]
  refine rows_aft keep (s.data f) f s.q 0 R X (fun x hx => h.len x (by simp [hx])) (fun x hx => h.len x (by simp [hx])) (fun p hp hpf => ?_) h.segs
  have := hk.q p hp
  rw [hpf] at this; exact ⟨this.2.1, this.2.2⟩
end DK
end Go.Proofs.Ytmnimcdbfolhaaa
