/- Plain law of WalSkips: which rows survive. -/
import Derived.Test.YtmnimcdbfolhaaaGP
set_option linter.unusedSimpArgs false
set_option linter.unusedVariables false
namespace Go.Proofs.Ytmnimcdbfolhaaa
namespace DK
theorem lead_le (keep : List Int) (f : Nat) : ∀ (q : List Pd) (i : Nat), lead keep f i q ≤ q.length
  | [], _ => Nat.le_refl _
  | p :: q, i => by
    unfold lead
    have := lead_le keep f q (i + 1)
    simp only [List.length_cons]
    split
    · split <;> omega
    · omega
theorem lead_snoc (keep : List Int) (f : Nat) (p : Pd) (hp : p.file = f) : ∀ (q : List Pd) (i : Nat), (∀ r ∈ q, r.file = f) → lead keep f i (q ++ [p]) = if lead keep f i q = q.length ∧ kept keep (i + q.length) p = p.un - p.fr then lead keep f i q + 1 else lead keep f i q
  | [], i, _ => by
    show lead keep f i [p] = _
    unfold lead
    rw [if_pos hp]
    by_cases h : kept keep i p = p.un - p.fr
    · rw [if_pos h, if_pos ⟨rfl, h⟩]; rfl
    · rw [if_neg h, if_neg (fun q => h q.2)]
  | r :: q, i, hq => by
    have hr := hq r (by simp)
    have ih := lead_snoc keep f p hp q (i + 1) (fun t ht => hq t (by simp [ht]))
    show lead keep f i (r :: (q ++ [p])) = _
    unfold lead
    rw [if_pos hr, if_pos hr]
    by_cases h : kept keep i r = r.un - r.fr
    · rw [if_pos h, if_pos h, ih, show i + (r :: q).length = i + 1 + q.length by simp <;> omega]
      by_cases h2 : lead keep f (i + 1) q = q.length ∧ kept keep (i + 1 + q.length) p = p.un - p.fr
      · rw [if_pos h2, if_pos ⟨by simp [h2.1], h2.2⟩]
      · rw [if_neg h2, if_neg (fun q2 => h2 ⟨by have := q2.1; simp at this; omega, q2.2⟩)]
    · rw [if_neg h, if_neg h, if_neg (fun q2 => by have := q2.1; simp at this)]
theorem kept_full {keep : List Int} {i : Nat} {p : Pd} (h : p.fr < p.un) : kept keep i p = p.un - p.fr ↔ ∃ k, keep[i]? = some k ∧ ((p.un - p.fr : Nat) : Int) ≤ k := by
  unfold kept
  cases hk : keep[i]? with
  | none => simp; omega
  | some k => simp; omega
/-- Where the statement's loop stands behind k rows. -/
structure SkI (l : List Bts) (F k : Nat) (keep : List Int) (s : St) (want : Nat) (whole : Bool) : Prop where
  g : G s
  all : ∀ p ∈ s.q, p.file = 2
  data : s.data 2 = recs (l.take k)
  cas : (k < F ∧ want = k ∧ whole = true ∧ Recs s 2 [] (l.take k)) ∨
    (F ≤ k ∧ want = F + lead keep 2 0 s.q ∧ whole = decide (lead keep 2 0 s.q = s.q.length) ∧ s.q.length = k - F ∧ Recs s 2 (l.take F) ((l.take k).drop F))
theorem noq_of {q : List Pd} {f : Nat} (h : ∀ p ∈ q, p.file = f) : (q.filter fun p => !decide (p.file = f)) = [] := by
  rw [List.filter_eq_nil_iff]; intro p hp; simp [h p hp]
theorem SkI.start (l : List Bts) (F : Nat) (keep : List Int) : SkI l F 0 keep (opnS St.zero 2) 0 true := by
  have h0 : rowsOf (St.zero.data 2) = [] := rowsOf_eq (rows_recs (l := []) (fun _ h => by cases h))
  have r := opnS_recs St.zero 2
  rw [h0] at r
  have q0 : (opnS St.zero 2).q = [] := by
    show ((opn2 (opn1 St.zero 2) 2).q.filter fun p => !decide (p.file = 2)) = []
    have e1 : opn1 St.zero 2 = St.zero := by unfold opn1; rw [if_neg (by show ¬ _ < 0; omega)]
    rw [e1]; rfl
  refine ⟨G.zero.opn (by omega), fun p hp => (by rw [q0] at hp; cases hp), by rw [opnS_data, h0]; rfl, ?_⟩
  rcases Nat.eq_zero_or_pos F with rfl | hF
  · exact .inr ⟨Nat.le_refl _, by rw [q0]; rfl, by rw [q0]; rfl, by rw [q0]; rfl, r⟩
  · exact .inl ⟨hF, rfl, rfl, r⟩
section
variable {l : List Bts} {F k : Nat} {keep : List Int} {s : St} {want : Nat} {whole : Bool} {x : Bts}
theorem take_snoc (hx : l[k]? = some x) : l.take (k + 1) = l.take k ++ [x] := by rw [List.take_add_one, hx]; rfl
theorem SkI.app_data (h : SkI l F k keep s want whole) (hx : l[k]? = some x) : (appS s 2 x).data 2 = recs (l.take (k + 1)) := by
  show upd s.data 2 (s.data 2 ++ recd x) 2 = _
  rw [upd_same, h.data, take_snoc hx, recs_snoc]
theorem pend_recd (f n : Nat) (x : Bts) : pend f n (recd x) = [⟨f, n, n + (x.length + 7)⟩] := by
  unfold pend; rw [if_neg (by intro e; have := congrArg List.length e; rw [recd_len] at this; simp at this), recd_len]
theorem app_q (s : St) (f : Nat) (x : Bts) : (appS s f x).q = s.q ++ [⟨f, (s.data f).length, (s.data f).length + (x.length + 7)⟩] := by
  show s.q ++ pend _ _ _ = _; rw [pend_recd]
theorem SkI.app_all (h : SkI l F k keep s want whole) : ∀ p ∈ (appS s 2 x).q, p.file = 2 := fun p hp => by
  rw [app_q] at hp
  rcases List.mem_append.1 hp with hp | hp
  · exact h.all p hp
  · obtain rfl := List.mem_singleton.1 hp; rfl
/-- A row ahead of the flush. -/
theorem SkI.low (h : SkI l F k keep s want whole) (hx : l[k]? = some x) (hl : x.length ≤ 1048576) (hs : (s.data 2).length + (x.length + 7) ≤ 16777216) (hF : k + 1 < F) : SkI l F (k + 1) keep (appS s 2 x) (k + 1) true := by
  rcases h.cas with ⟨h1, rfl, rfl, h4⟩ | ⟨h1, _⟩
  · refine ⟨h.g.app (by omega) x hs, h.app_all, h.app_data hx, .inl ⟨hF, rfl, rfl, ?_⟩⟩
    rw [take_snoc hx]; exact h4.app h.g.ok x hl
  · omega
/-- The row that is flushed. -/
theorem SkI.flush (h : SkI l F k keep s want whole) (hx : l[k]? = some x) (hl : x.length ≤ 1048576) (hs : (s.data 2).length + (x.length + 7) ≤ 16777216) (hF : k + 1 = F) : SkI l F (k + 1) keep (flushS (appS s 2 x) 2) (k + 1) true := by
  rcases h.cas with ⟨h1, rfl, rfl, h4⟩ | ⟨h1, _⟩
  · have hq : (flushS (appS s 2 x) 2).q = [] := noq_of h.app_all
    have hr := (h4.app h.g.ok x hl).flushed
    rw [List.nil_append, ← take_snoc hx] at hr
    refine ⟨(h.g.app (by omega) x hs).flush, fun p hp => (by rw [hq] at hp; cases hp), h.app_data hx, .inr ⟨by omega, by rw [hq]; show _ = F + 0; omega, by rw [hq]; rfl, by rw [hq]; show 0 = _; omega, ?_⟩⟩
    rw [List.drop_eq_nil_of_le (by rw [List.length_take]; omega), ← hF]
    exact hr
  · omega
/-- A row behind the flush. -/
theorem SkI.high (h : SkI l F k keep s want whole) (hx : l[k]? = some x) (hl : x.length ≤ 1048576) (hs : (s.data 2).length + (x.length + 7) ≤ 16777216) (hF : F ≤ k) (hk : k < l.length) {w2 : Bool} (hw : w2 = true ↔ whole = true ∧ ∃ c, keep[k - F]? = some c ∧ ((x.length + 7 : Nat) : Int) ≤ c) :
    SkI l F (k + 1) keep (appS s 2 x) (if w2 then k + 1 else want) w2 := by
  rcases h.cas with ⟨h1, _⟩ | ⟨h1, h2, h3, h4, h5⟩
  · omega
  · obtain ⟨j, rfl⟩ : ∃ j, k = F + j := ⟨k - F, by omega⟩
    rw [show F + j - F = j by omega] at hw h4
    have hls := lead_snoc keep 2 ⟨2, (s.data 2).length, (s.data 2).length + (x.length + 7)⟩ rfl s.q 0 h.all
    have hkf := kept_full (keep := keep) (i := 0 + s.q.length) (p := ⟨2, (s.data 2).length, (s.data 2).length + (x.length + 7)⟩) (show (s.data 2).length < (s.data 2).length + (x.length + 7) by omega)
    simp only [show (s.data 2).length + (x.length + 7) - (s.data 2).length = x.length + 7 by omega, Nat.zero_add, h4] at hkf hls
    have hle := lead_le keep 2 s.q 0
    have hcond : (lead keep 2 0 s.q = j ∧ kept keep j ⟨2, (s.data 2).length, (s.data 2).length + (x.length + 7)⟩ = x.length + 7) ↔ w2 = true := by
      rw [hw, hkf, h3, decide_eq_true_eq, h4]
    refine ⟨h.g.app (by omega) x hs, h.app_all, h.app_data hx, .inr ⟨by omega, ?_, ?_, ?_, ?_⟩⟩
    · rw [app_q, hls]
      by_cases q : w2 = true
      · rw [if_pos q, if_pos (hcond.2 q)]; have := (hcond.2 q).1; omega
      · rw [if_neg q, if_neg (fun r => q (hcond.1 r))]; exact h2
    · rw [app_q, hls, List.length_append, h4]
      by_cases q : w2 = true
      · rw [if_pos (hcond.2 q), q]; have := (hcond.2 q).1; symm; exact decide_eq_true (by simp; omega)
      · rw [if_neg (fun r => q (hcond.1 r))]
        rw [Bool.eq_false_iff.2 q]; symm; refine decide_eq_false ?_; simp; omega
    · rw [app_q, List.length_append, h4]; simp; omega
    · have e : (l.take (F + j + 1)).drop F = (l.take (F + j)).drop F ++ [x] := by
        rw [take_snoc hx, List.drop_append_of_le_length (by rw [List.length_take]; omega)]
      rw [e]; exact h5.app h.g.ok x hl
theorem SkI.rows (h : SkI l F l.length keep s want whole) (hF : F ≤ l.length) : want ≤ l.length ∧ rowsOf ((crash s keep).data 2) = l.take want := by
  rcases h.cas with ⟨h1, _⟩ | ⟨h1, h2, h3, h4, h5⟩
  · omega
  · have hle := lead_le keep 2 s.q 0
    refine ⟨by omega, ?_⟩
    rw [crash_rows h.g.ok h.g.cov h.g.up.down (by omega) h5, List.take_length, h2]
    conv => rhs; rw [List.take_add]
end
end DK
end Go.Proofs.Ytmnimcdbfolhaaa
