/- Plain words and laws of ways: the best shelter, the node before a node, the chain of them; journeys and walks that are travelled. -/
import Derived.Test.YtphebdmdbnpokaaRD
set_option linter.unusedSimpArgs false
set_option linter.unusedVariables false
namespace Go.Proofs.Ytphebdmdbnpokaa
namespace RD
/-- The least number of a set, or -1. -/
def MinOf (S : Nat → Prop) (b : Int) : Prop := (b = -1 ∧ ∀ m, ¬ S m) ∨ ∃ m : Nat, b = m ∧ S m ∧ ∀ k, S k → m ≤ k
theorem MinOf.uniq {S : Nat → Prop} {a b : Int} (h : MinOf S a) (k : MinOf S b) : a = b := by
  rcases h with ⟨rfl, h⟩ | ⟨m, rfl, h1, h2⟩ <;> rcases k with ⟨rfl, k⟩ | ⟨n, rfl, k1, k2⟩
  · rfl
  · exact absurd k1 (h _)
  · exact absurd h1 (k _)
  · have := h2 _ k1; have := k2 _ h1; omega
theorem MinOf.congr {S T : Nat → Prop} {a : Int} (h : MinOf S a) (e : ∀ m, S m ↔ T m) : MinOf T a := by
  rcases h with ⟨rfl, h⟩ | ⟨m, rfl, h1, h2⟩
  · exact .inl ⟨rfl, fun m k => h m ((e m).2 k)⟩
  · exact .inr ⟨m, rfl, (e m).1 h1, fun k hk => h2 k ((e k).2 hk)⟩
theorem MinOf.none : MinOf (fun _ => False) (-1) := .inl ⟨rfl, fun _ => id⟩
theorem MinOf.more {S : Nat → Prop} {a : Int} (h : MinOf S a) (x : Nat) : MinOf (fun m => S m ∨ m = x) (if a < 0 ∨ (x : Int) < a then x else a) := by
  rcases h with ⟨rfl, h⟩ | ⟨m, rfl, h1, h2⟩
  · rw [if_pos (by omega)]
    exact .inr ⟨x, rfl, .inr rfl, fun k hk => by rcases hk with hk | hk; exact absurd hk (h k); omega⟩
  · by_cases e : x < m
    · rw [if_pos (by omega)]
      exact .inr ⟨x, rfl, .inr rfl, fun k hk => by rcases hk with hk | hk; have := h2 k hk; omega; omega⟩
    · rw [if_neg (by omega)]
      exact .inr ⟨m, rfl, .inl h1, fun k hk => by rcases hk with hk | hk; exact h2 k hk; omega⟩
noncomputable def minI (S : Nat → Prop) : Int := @dite _ (∃ m, S m) (Classical.propDecidable _) (fun h => ((Classical.choose (least_of (p := S) (Classical.choose_spec h)) : Nat) : Int)) (fun _ => -1)
theorem minI_is (S : Nat → Prop) : MinOf S (minI S) := by
  unfold minI
  by_cases h : ∃ m, S m
  · rw [dif_pos h]
    have := Classical.choose_spec (least_of (p := S) (Classical.choose_spec h))
    exact .inr ⟨_, rfl, this.1, this.2.2⟩
  · rw [dif_neg h]; exact .inl ⟨rfl, fun m k => h ⟨m, k⟩⟩
theorem MinOf.eq {S : Nat → Prop} {a : Int} (h : MinOf S a) : minI S = a := (minI_is S).uniq h
theorem minI_ge (S : Nat → Prop) : -1 ≤ minI S := by rcases minI_is S with ⟨e, _⟩ | ⟨m, e, _⟩ <;> omega
theorem minI_mem {S : Nat → Prop} (h : 0 ≤ minI S) : S (minI S).toNat := by
  rcases minI_is S with ⟨e, _⟩ | ⟨m, e, h1, _⟩
  · omega
  · rw [e]; exact h1
theorem minI_le {S : Nat → Prop} {m : Nat} (h : S m) : 0 ≤ minI S ∧ minI S ≤ m := by
  rcases minI_is S with ⟨e, k⟩ | ⟨n, e, _, k⟩
  · exact absurd h (k m)
  · have := k m h; omega
/-- The shelter with the least arrival among the nodes lo, .. of which k were looked at. -/
def best (A : Nat → Int) (lo : Nat) : Nat → Int
  | 0 => -1
  | k + 1 => if 0 ≤ A (lo + k) ∧ (best A lo k < 0 ∨ A (lo + k) < A (best A lo k).toNat) then ((lo + k : Nat) : Int) else best A lo k
theorem best_cases (A : Nat → Int) (lo : Nat) : ∀ k, (best A lo k = -1 ∧ ∀ n, lo ≤ n → n < lo + k → A n < 0) ∨ ∃ b : Nat, best A lo k = b ∧ lo ≤ b ∧ b < lo + k ∧ 0 ≤ A b ∧ ∀ n, lo ≤ n → n < lo + k → 0 ≤ A n → A b ≤ A n
  | 0 => .inl ⟨rfl, fun n h1 h2 => by omega⟩
  | k + 1 => by
    have ih := best_cases A lo k
    simp only [best]
    rcases ih with ⟨e, h⟩ | ⟨b, e, h1, h2, h3, h4⟩
    · rw [e]
      by_cases q : 0 ≤ A (lo + k)
      · rw [if_pos ⟨q, .inl (by omega)⟩]
        exact .inr ⟨_, rfl, by omega, by omega, q, fun n a1 a2 a3 => by
          by_cases e2 : n = lo + k
          · rw [e2]; exact Int.le_refl _
          · have := h n a1 (by omega); omega⟩
      · rw [if_neg (fun h => q h.1)]
        exact .inl ⟨rfl, fun n a1 a2 => by
          by_cases e2 : n = lo + k
          · rw [e2]; omega
          · exact h n a1 (by omega)⟩
    · rw [e, Int.toNat_natCast]
      by_cases q : 0 ≤ A (lo + k) ∧ A (lo + k) < A b
      · rw [if_pos ⟨q.1, .inr q.2⟩]
        exact .inr ⟨_, rfl, by omega, by omega, q.1, fun n a1 a2 a3 => by
          by_cases e2 : n = lo + k
          · rw [e2]; exact Int.le_refl _
          · have := h4 n a1 (by omega) a3; omega⟩
      · rw [if_neg (fun h => q ⟨h.1, h.2.resolve_left (by omega)⟩)]
        exact .inr ⟨b, rfl, h1, by omega, h3, fun n a1 a2 a3 => by
          by_cases e2 : n = lo + k
          · rw [e2] at a3 ⊢
            by_cases e3 : A (lo + k) < A b
            · exact absurd ⟨a3, e3⟩ q
            · omega
          · exact h4 n a1 (by omega) a3⟩
theorem best_congr {A B : Nat → Int} {lo : Nat} : ∀ {k}, (∀ n, n < lo + k → A n = B n) → best A lo k = best B lo k
  | 0, _ => rfl
  | k + 1, h => by
    have ih := best_congr (A := A) (B := B) (lo := lo) (k := k) fun n hn => h n (by omega)
    have c := best_cases B lo k
    simp only [best, ih]
    rw [h (lo + k) (by omega)]
    rcases c with ⟨e, _⟩ | ⟨b, e, h1, h2, _⟩
    · rw [e]; simp
    · rw [e, Int.toNat_natCast, h b (by omega)]
section
variable (N P : Nat) (VS : Vs) (A : Nat → Int)
/-- Whether a road is a last journey to its end. -/
def Leads (r : Rd) : Prop := usableB N P r = true ∧ ∃ a b t : Nat, A r.frm.toNat = a ∧ A r.to_.toNat = b ∧ IsLeave VS r a t ∧ t + r.hours.toNat = b
noncomputable def leadB (r : Rd) : Bool := @decide (Leads N P VS A r) (Classical.propDecidable _)
theorem leadB_iff {r : Rd} : leadB N P VS A r = true ↔ Leads N P VS A r := by
  unfold leadB
  exact @decide_eq_true_iff _ (Classical.propDecidable _)
/-- The node before a node. -/
noncomputable def bef (R : List Rd) (v : Nat) : Int := match R.find? (fun r => leadB N P VS A r && r.to_.toNat == v) with
  | some r => r.frm
  | none => -1
end
section
variable {N P : Nat} {VS : Vs} {A : Nat → Int}
theorem bef_nil (v : Nat) : bef N P VS A [] v = -1 := rfl
theorem bef_snoc {R : List Rd} {r : Rd} (hr : usableB N P r = true → 0 ≤ r.frm) (v : Nat) : bef N P VS A (R ++ [r]) v = if leadB N P VS A r = true ∧ r.to_.toNat = v ∧ bef N P VS A R v < 0 then r.frm else bef N P VS A R v := by
  unfold bef
  rw [List.find?_append]
  cases e : R.find? (fun r => leadB N P VS A r && r.to_.toNat == v) with
  | some q =>
    have hq := List.find?_some e
    simp only [Bool.and_eq_true] at hq
    have := usable_iff.1 ((leadB_iff N P VS A).1 hq.1).1
    simp only [Option.some_or]
    rw [if_neg (by omega)]
  | none =>
    by_cases h : leadB N P VS A r = true ∧ r.to_.toNat = v
    · simp [h.1, h.2]
    · rw [if_neg (fun k => h ⟨k.1, k.2.1⟩)]
      have : (leadB N P VS A r && r.to_.toNat == v) = false := by
        cases e1 : leadB N P VS A r
        · rfl
        · cases e2 : r.to_.toNat == v
          · rfl
          · exact absurd ⟨e1, by simpa using e2⟩ h
      simp [this]
theorem bef_cases (R : List Rd) (v : Nat) : (bef N P VS A R v = -1 ∧ ∀ r ∈ R, Leads N P VS A r → r.to_.toNat ≠ v) ∨ ∃ r ∈ R, Leads N P VS A r ∧ r.to_.toNat = v ∧ bef N P VS A R v = r.frm ∧ 0 ≤ r.frm := by
  unfold bef
  cases e : R.find? (fun r => leadB N P VS A r && r.to_.toNat == v) with
  | some q =>
    have hq := List.find?_some e
    simp only [Bool.and_eq_true, beq_iff_eq] at hq
    have hl := (leadB_iff N P VS A).1 hq.1
    exact .inr ⟨q, List.mem_of_find?_eq_some e, hl, hq.2, rfl, (usable_iff.1 hl.1).1⟩
  | none =>
    refine .inl ⟨rfl, fun r hr hl hv => ?_⟩
    have := List.find?_eq_none.1 e r hr
    rw [(leadB_iff N P VS A).2 hl, hv] at this
    simp at this
end
/-- The way from the town to a node, by the nodes before. -/
inductive Chain (B : Nat → Int) (town : Nat) : Nat → List Nat → Prop
  | stop : Chain B town town [town]
  | go {v : Nat} {l : List Nat} : v ≠ town → 0 ≤ B v → Chain B town (B v).toNat l → Chain B town v (l ++ [v])
theorem Chain.uniq {B : Nat → Int} {town v : Nat} {l m : List Nat} (h : Chain B town v l) (k : Chain B town v m) : l = m := by
  induction h generalizing m with
  | stop => cases k with
    | stop => rfl
    | go h1 _ _ => exact absurd rfl h1
  | go h1 h2 h3 ih => cases k with
    | stop => exact absurd rfl h1
    | go _ _ k3 => rw [ih k3]
theorem Chain.town {B : Nat → Int} {town : Nat} {l : List Nat} (h : Chain B town town l) : l = [town] := h.uniq .stop
theorem Chain.split {B : Nat → Int} {town v : Nat} {l : List Nat} (h : Chain B town v l) (hv : v ≠ town) : 0 ≤ B v ∧ ∃ m, Chain B town (B v).toNat m ∧ l = m ++ [v] := by
  cases h with
  | stop => exact absurd rfl hv
  | go h1 h2 h3 => exact ⟨h2, _, h3, rfl⟩
theorem Chain.pos {B : Nat → Int} {town v : Nat} {l : List Nat} (h : Chain B town v l) : 0 < l.length := by cases h <;> simp
section
variable {N P : Nat} {VS : Vs} {R : List Rd} {town : Nat}
theorem bef_of_arr {v h : Nat} (hv : v ≠ town) (a : IsArr N P VS R town v h) : ∃ r ∈ R, usableB N P r = true ∧ r.to_.toNat = v ∧ bef N P VS (arr N P VS R town) R v = r.frm ∧ 0 ≤ r.frm ∧ ∃ b t, IsArr N P VS R town r.frm.toNat b ∧ IsLeave VS r b t ∧ t + r.hours.toNat = h := by
  obtain ⟨r, hr, h1, h2, b, t, hb, ht, he⟩ := last_road hv a
  rcases bef_cases (N := N) (P := P) (VS := VS) (A := arr N P VS R town) R v with ⟨_, q⟩ | ⟨q, hq, ⟨l1, x, y, z, lx, ly, lz, le⟩, lv, lb, l0⟩
  · refine absurd h2 (q r hr ⟨h1, b, h, t, arr_is hb, ?_, ht, he⟩)
    rw [h2]; exact arr_is a
  · refine ⟨q, hq, l1, lv, lb, l0, x, z, ?_, lz, ?_⟩
    · have := arr_isarr (N := N) (P := P) (VS := VS) (R := R) (town := town) (v := q.frm.toNat) (by rw [lx]; omega)
      rw [lx] at this; exact this
    · rw [lv, arr_is a] at ly; omega
theorem chain_is {v h : Nat} (a : IsArr N P VS R town v h) : ∃ l, Chain (bef N P VS (arr N P VS R town) R) town v l := by
  induction h using Nat.strongRecOn generalizing v with
  | ind h ih =>
    by_cases hv : v = town
    · subst hv; exact ⟨_, .stop⟩
    · obtain ⟨r, hr, h1, h2, h3, h4, b, t, hb, ht, he⟩ := bef_of_arr hv a
      have hh := usable_iff.1 h1
      obtain ⟨l, hl⟩ := ih b (by have := ht.1; omega) hb
      exact ⟨_, .go hv (by rw [h3]; exact h4) (by rw [h3]; exact hl)⟩
/-- Where and when one can be by a single journey. -/
def Jour (N P : Nat) (VS : Vs) (R : List Rd) (u v : Int) (now m : Nat) : Prop := ∃ r ∈ R, usableB N P r = true ∧ r.frm = u ∧ r.to_ = v ∧ ∃ t, now ≤ t ∧ poss VS r t ∧ t + r.hours.toNat = m
noncomputable def jour (N P : Nat) (VS : Vs) (R : List Rd) (u v : Int) (now : Nat) : Int := minI (Jour N P VS R u v now)
theorem jour_at {u v : Int} {now : Nat} (h : At N P VS R town u.toNat now) (h0 : 0 ≤ jour N P VS R u v now) : 0 ≤ v ∧ At N P VS R town v.toNat (jour N P VS R u v now).toNat := by
  obtain ⟨r, hr, h1, rfl, rfl, t, h2, h3, h4⟩ := minI_mem h0
  have := usable_iff.1 h1
  refine ⟨by omega, ?_⟩
  unfold jour
  rw [← h4]
  exact .go hr h1 h h2 h3
theorem jour_bound {u v : Int} {now : Nat} : jour N P VS R u v now ≤ max now (VS.length - 1) + 24 := by
  rcases minI_is (Jour N P VS R u v now) with ⟨e, _⟩ | ⟨m, e, ⟨r, hr, h1, h2, h3, t, h4, h5, h6⟩, hm⟩
  · unfold jour; omega
  · unfold jour
    rw [e]
    obtain ⟨x, hx, hxt⟩ := leave_of h4 h5
    have hb := hx.bound
    have := usable_iff.1 h1
    have := hm _ ⟨r, hr, h1, h2, h3, x, hx.1, hx.2.1, rfl⟩
    omega
/-- The hour at which a walk's rest is done, or -1. -/
noncomputable def trav (N P : Nat) (VS : Vs) (R : List Rd) : Int → Nat → List Int → Int
  | _, now, [] => now
  | u, now, v :: l => if jour N P VS R u v now < 0 then -1 else trav N P VS R v (jour N P VS R u v now).toNat l
theorem trav_at : ∀ {l : List Int} {u : Int} {now : Nat}, At N P VS R town u.toNat now → 0 ≤ trav N P VS R u now l → At N P VS R town ((u :: l).getLast (by simp)).toNat (trav N P VS R u now l).toNat
  | [], u, now, h, h0 => by simpa [trav] using h
  | v :: l, u, now, h, h0 => by
    simp only [trav] at h0 ⊢
    by_cases q : jour N P VS R u v now < 0
    · rw [if_pos q] at h0; omega
    · rw [if_neg q] at h0 ⊢
      have := jour_at (v := v) h (by omega)
      rw [List.getLast_cons (by simp)]
      exact trav_at this.2 h0
theorem trav_snoc : ∀ {l : List Int} {u v : Int} {now : Nat}, 0 ≤ trav N P VS R u now l → trav N P VS R u now (l ++ [v]) = jour N P VS R ((u :: l).getLast (by simp)) v (trav N P VS R u now l).toNat ∨ trav N P VS R u now (l ++ [v]) = -1 ∧ jour N P VS R ((u :: l).getLast (by simp)) v (trav N P VS R u now l).toNat < 0
  | [], u, v, now, _ => by
    simp only [trav, List.nil_append, Int.toNat_natCast, List.getLast_singleton]
    by_cases q : jour N P VS R u v now < 0
    · rw [if_pos q]; exact .inr ⟨rfl, q⟩
    · rw [if_neg q]; exact .inl (by omega)
  | x :: l, u, v, now, h => by
    simp only [trav, List.cons_append] at h ⊢
    by_cases q : jour N P VS R u x now < 0
    · rw [if_pos q] at h; omega
    · rw [if_neg q] at h
      rw [if_neg q, if_neg q, List.getLast_cons (by simp)]
      exact trav_snoc h
/-- The way's nodes as integers. -/
def intsOf (l : List Nat) : List Int := l.map fun n : Nat => (n : Int)
/-- A chain is travelled, and ends at the arrival. -/
theorem chain_trav {v : Nat} {l : List Nat} (hc : Chain (bef N P VS (arr N P VS R town) R) town v l) : ∀ {h}, IsArr N P VS R town v h → ∃ m, intsOf l = (town : Int) :: m ∧ trav N P VS R town 0 m = h ∧ ((town : Int) :: m).getLast (by simp) = v := by
  induction hc with
  | stop =>
    intro h a
    have := a.uniq (by have := arr_isarr (N := N) (P := P) (VS := VS) (R := R) (town := town) (v := town) (by rw [arr_town]; omega); rw [arr_town] at this; exact this)
    exact ⟨[], rfl, by simp only [trav]; omega, rfl⟩
  | @go v l hv h0 hl ih =>
    intro h a
    obtain ⟨r, hr, h1, h2, h3, h4, b, t, hb, ht, he⟩ := bef_of_arr hv a
    rw [h3] at ih hl
    obtain ⟨m, e1, e2, e3⟩ := ih hb
    refine ⟨m ++ [(v : Int)], by unfold intsOf at e1 ⊢; rw [List.map_append, e1]; rfl, ?_, by rw [List.getLast_cons (by simp)]; exact List.getLast_concat⟩
    have hu := usable_iff.1 h1
    have hj : jour N P VS R ((r.frm.toNat : Nat) : Int) v b = h := by
      refine MinOf.eq (.inr ⟨h, rfl, ⟨r, hr, h1, by omega, by omega, t, ht.1, ht.2.1, he⟩, fun k hk => ?_⟩)
      obtain ⟨q, hq, q1, q2, q3, x, q4, q5, q6⟩ := hk
      refine a.2 k ?_
      have := At.go hq q1 (town := town) (a := b) (by rw [q2, Int.toNat_natCast]; exact hb.1) q4 q5
      rw [q3, q6] at this
      simpa using this
    have := trav_snoc (N := N) (P := P) (VS := VS) (R := R) (l := m) (u := town) (v := v) (now := 0) (by rw [e2]; omega)
    rw [e2, e3, Int.toNat_natCast, hj] at this
    rcases this with e | ⟨_, e⟩
    · exact e
    · omega
/-- The arrivals ascend along a chain. -/
theorem chain_asc {v : Nat} {l : List Nat} (hc : Chain (bef N P VS (arr N P VS R town) R) town v l) : ∀ {h}, IsArr N P VS R town v h → (∀ x ∈ l, x = v ∨ ∃ k, IsArr N P VS R town x k ∧ k < h) ∧ l.Nodup ∧ (∀ x ∈ l, ∃ k, IsArr N P VS R town x k) := by
  induction hc with
  | stop => intro h a; exact ⟨fun x hx => .inl (List.mem_singleton.1 hx), by simp, fun x hx => by rw [List.mem_singleton.1 hx]; exact ⟨h, a⟩⟩
  | @go v l hv h0 hl ih =>
    intro h a
    obtain ⟨r, hr, h1, h2, h3, h4, b, t, hb, ht, he⟩ := bef_of_arr hv a
    rw [h3] at ih hl
    obtain ⟨i1, i2, i3⟩ := ih hb
    have hu := usable_iff.1 h1
    have hbh : b < h := by have := ht.1; omega
    have hlt : ∀ x ∈ l, ∃ k, IsArr N P VS R town x k ∧ k < h := fun x hx => by
      rcases i1 x hx with e | ⟨k, hk, hlt⟩
      · rw [e]; exact ⟨b, hb, hbh⟩
      · exact ⟨k, hk, by omega⟩
    refine ⟨fun x hx => ?_, ?_, fun x hx => ?_⟩
    · rcases List.mem_append.1 hx with hx | hx
      · exact .inr (hlt x hx)
      · exact .inl (List.mem_singleton.1 hx)
    · rw [List.nodup_append]
      refine ⟨i2, by simp, fun x hx y hy e => ?_⟩
      obtain rfl := List.mem_singleton.1 hy
      obtain ⟨k, hk, hlt⟩ := hlt x hx
      rw [e] at hk
      have := hk.uniq a; omega
    · rcases List.mem_append.1 hx with hx | hx
      · exact i3 x hx
      · rw [List.mem_singleton.1 hx]; exact ⟨h, a⟩
theorem nodup_len {n : Nat} : ∀ {l : List Nat}, l.Nodup → (∀ x ∈ l, x < n) → l.length ≤ n := by
  induction n with
  | zero => intro l _ h2; cases l with
    | nil => simp
    | cons x l => exact absurd (h2 x (by simp)) (by omega)
  | succ n ih =>
    intro l h1 h2
    have := ih (l := l.filter (· ≠ n)) (h1.filter _) (fun x hx => by
      obtain ⟨a, b⟩ := List.mem_filter.1 hx
      have := h2 x a
      have : x ≠ n := by simpa using b
      omega)
    have h3 : l.length ≤ (l.filter (· ≠ n)).length + 1 := by
      clear this h2 ih
      induction l with
      | nil => simp
      | cons x l ih =>
        rw [List.nodup_cons] at h1
        by_cases e : x = n
        · have : l.filter (· ≠ n) = l := List.filter_eq_self.2 fun y hy => by
            have : y ≠ n := fun q => h1.1 (by rw [e, ← q]; exact hy)
            simpa using this
          rw [List.filter_cons_of_neg (by simp [e]), this]; simp
        · rw [List.filter_cons_of_pos (by simp [e])]
          have := ih h1.2
          rw [List.length_cons, List.length_cons]; omega
    have h4 : (l.filter (fun x => decide (x ≠ n))).length ≤ n := this
    omega
theorem chain_len (ht : town < N) {v h : Nat} {l : List Nat} (hc : Chain (bef N P VS (arr N P VS R town) R) town v l) (a : IsArr N P VS R town v h) : l.length ≤ N := by
  obtain ⟨_, h2, h3⟩ := chain_asc hc a
  exact nodup_len h2 fun x hx => by obtain ⟨k, hk⟩ := h3 x hx; exact at_lt ht hk.1
end
section
variable {N P : Nat} {VS : Vs} {R : List Rd} {town : Nat}
theorem chain_bound {v : Nat} {l : List Nat} (hc : Chain (bef N P VS (arr N P VS R town) R) town v l) : ∀ {h}, IsArr N P VS R town v h → h ≤ VS.length + 24 * l.length := by
  induction hc with
  | stop =>
    intro h a
    have := a.uniq (by have := arr_isarr (N := N) (P := P) (VS := VS) (R := R) (town := town) (v := town) (by rw [arr_town]; omega); rw [arr_town] at this; exact this)
    simp at this; omega
  | @go v l hv h0 hl ih =>
    intro h a
    obtain ⟨r, hr, h1, h2, h3, h4, b, t, hb, ht, he⟩ := bef_of_arr hv a
    rw [h3] at ih
    have i := ih hb
    have hu := usable_iff.1 h1
    have := ht.bound
    simp; omega
theorem arr_bound (ht : town < N) (v : Nat) : arr N P VS R town v ≤ VS.length + 24 * N := by
  rcases arr_cases N P VS R town v with ⟨h, e, a⟩ | ⟨e, _⟩
  · obtain ⟨l, hl⟩ := chain_is a
    have := chain_bound hl a
    have := chain_len ht hl a
    rw [e]; omega
  · rw [e]; omega
/-- What Ways answers: the way and whether there is one. -/
def WayR (N P nT : Nat) (VS : Vs) (R : List Rd) (town : Int) (l : List Nat) (ok : Bool) : Prop :=
  (ok = false ∧ l = [] ∧ (town < 0 ∨ (nT : Int) ≤ town ∨ best (arr N P VS R town.toNat) nT (N - nT) = -1)) ∨
    (ok = true ∧ 0 ≤ town ∧ town < nT ∧ ∃ b : Nat, best (arr N P VS R town.toNat) nT (N - nT) = b ∧ Chain (bef N P VS (arr N P VS R town.toNat) R) town.toNat b l)
theorem WayR.uniq {nT : Nat} {tn : Int} {l m : List Nat} {a b : Bool} (h : WayR N P nT VS R tn l a) (k : WayR N P nT VS R tn m b) : l = m ∧ a = b := by
  rcases h with ⟨rfl, rfl, h⟩ | ⟨rfl, h1, h2, x, h3, h4⟩ <;> rcases k with ⟨rfl, rfl, k⟩ | ⟨rfl, k1, k2, y, k3, k4⟩
  · exact ⟨rfl, rfl⟩
  · rcases h with h | h | h
    · omega
    · omega
    · rw [h] at k3; omega
  · rcases k with k | k | k
    · omega
    · omega
    · rw [k] at h3; omega
  · rw [h3] at k3
    obtain rfl : x = y := by omega
    exact ⟨h4.uniq k4, rfl⟩
end
/-- Lower volumes never shut a road. -/
def Lower (lo hi : Vs) : Prop := lo.length = hi.length ∧ ∀ t, t < lo.length → (lo.getD t []).length = (hi.getD t []).length ∧ ∀ p, (lo.getD t []).getD p 0 ≤ (hi.getD t []).getD p 0
theorem passB_mono {r : Rd} {V W : List Int} (h : ∀ p, V.getD p 0 ≤ W.getD p 0) (k : passB r W = true) : passB r V = true := by
  unfold passB at *
  simp only [Bool.or_eq_true, decide_eq_true_eq] at *
  rcases k with k | k
  · exact .inl k
  · exact .inr (Int.le_trans (h _) k)
theorem Lower.vols {lo hi : Vs} (h : Lower lo hi) (t p : Nat) : (volsAt lo t).getD p 0 ≤ (volsAt hi t).getD p 0 := by
  unfold volsAt
  rw [← h.1]
  by_cases e : min t (lo.length - 1) < lo.length
  · exact (h.2 _ e).2 p
  · have out : ∀ (l : Vs) (i : Nat), l.length ≤ i → l.getD i [] = [] := fun l i hi => by rw [List.getD_eq_getElem?_getD, List.getElem?_eq_none hi]; rfl
    rw [out lo _ (by omega), out hi _ (by have := h.1; omega)]
    exact Int.le_refl _
theorem Lower.poss {lo hi : Vs} (h : Lower lo hi) {r : Rd} {t : Nat} (k : poss hi r t) : poss lo r t := fun i hi' => passB_mono (h.vols _) (k i hi')
theorem Lower.at_ {lo hi : Vs} (h : Lower lo hi) {N P : Nat} {R : List Rd} {town v x : Nat} (a : At N P hi R town v x) : At N P lo R town v x := by
  induction a with
  | start => exact .start
  | go h1 h2 _ h4 h5 ih => exact .go h1 h2 ih h4 (h.poss h5)
end RD
end Go.Proofs.Ytphebdmdbnpokaa
