/- The walk of Post. -/
import Derived.Test.YtminphldifncaaaDoorW6
set_option linter.unusedSimpArgs false
set_option linter.unusedVariables false
namespace Go.Proofs.YtminphldifncaaaDoor
open Go.RowKit LG
attribute [local go_sem] alloc_drewN setCell_drewN shape_drewN

/-- A slice of entries, of the call's own, and an error. -/
def PostRes (r : List Et × Int) (w : World) (x : Ending) (w' : World) : Prop := ∃ D dc, x = .returned (.tuple #[.slice D r.1.length dc, .int .i64 r.2]) ∧ r.1.length ≤ dc ∧ EntsAt w' w'.heap.size D r.1 ∧ (∀ a, D = some a → w.heap.size ≤ a.block) ∧ Below w.heap.size w w'
theorem PostRes.nil {r : List Et × Int} {n : Int} {w w' : World} (h : r = ([], n)) (hb : Below w.heap.size w w') : PostRes r w (.returned (.tuple #[.slice none 0 0, .int .i64 n])) w' := by
  subst h
  exact ⟨none, 0, rfl, Nat.le_refl _, EntsAt.nil _ _ _, (fun a ha => by cases ha), hb⟩
theorem postR_arg {l e : List Et} (h : postB e = false) : postR l e = ([], 1) := by unfold postR; rw [h]; rfl
theorem postR_late {l e : List Et} (h : postB e = true) (h2 : lateB l e = true) : postR l e = ([], 15) := by unfold postR; rw [h, h2]; rfl
theorem postR_full {l e : List Et} (h : postB e = true) (h2 : lateB l e = false) (h3 : fullB l e = true) : postR l e = ([], 8) := by unfold postR; rw [h, h2, h3]; rfl
theorem postR_ok {l e : List Et} (h : postB e = true) (h2 : lateB l e = false) (h3 : fullB l e = false) : postR l e = (l ++ e, 0) := by unfold postR; rw [h, h2, h3]; rfl
theorem postB_ne {e : List Et} (h : postB e = true) : e ≠ [] := fun hn => by subst hn; simp [postB] at h
theorem lateB_nil (e : List Et) : lateB [] e = false := rfl
theorem lateB_of {l e : List Et} {h q : Et} {n : Nat} (hn : l.length = n + 1) (hq : l[n]? = some q) (hh : e[0]? = some h) : lateB l e = decide (h.known < q.known) := by
  unfold lateB
  have h1 : l.getLastD default = q := by
    rw [List.getLastD_eq_getLast?, List.getLast?_eq_getElem?, hn]
    simp [hq]
  rw [headD_of hh, h1]
  cases l with
  | nil => simp at hn
  | cons _ _ => simp
set_option maxRecDepth 100000 in
set_option maxHeartbeats 8000000 in
theorem post_any (l e : List Et) (C1 C2 : Option Addr) (c1 c2 : Nat) (w : World) {B : Nat} (h1 : EntsAt w B C1 l) (h2 : EntsAt w B C2 e) (hB : B ≤ w.heap.size) (hl1 : l.length ≤ 900000) (hl2 : e.length ≤ 900000) (hI1 : LitsIn l) (hI2 : LitsIn e) :
    Calls Tryd.prog 12 #[.slice C1 l.length c1, .slice C2 e.length c2] w (PostRes (postR l e) w) := by
  have K0 := posting_any e C2 c2 w h2 hB (by omega) hI2
  unfold BoolIs at K0
  cases hp : postB e with
  | false =>
    have HR : Hid (postR l e = ([], 1)) := postR_arg hp
    rw [hp] at K0
    have K0 := Lib.hid K0
    clear hp
    go_enter Tryd.func12, Tryd.ntmps12
    go_wp2_with (first | (go_at_call 31; (with_reducible refine K0.out.mono ?_); rintro x1 w1 ⟨rfl, hb1⟩) | fail)
    go_ret2
    exact PostRes.nil HR.out hb1
  | true =>
    rw [hp] at K0
    have K0 := Lib.hid K0
    have HP := Lib.hid hp
    have hne : e ≠ [] := postB_ne hp
    have hpos : 0 < e.length := List.length_pos_iff.2 hne
    obtain ⟨h, hh⟩ : ∃ h, e[0]? = some h := ⟨_, List.getElem?_eq_getElem hpos⟩
    have HH := Lib.hid hh
    clear hp hne
    go_enter Tryd.func12, Tryd.ntmps12
    go_wp2_with (first | (go_at_call 31; (with_reducible refine K0.out.mono ?_); rintro x1 w1 ⟨rfl, hb1⟩) | fail)
    obtain ⟨b2, o2, rfl, hb2', z0, z1, _⟩ := (h2.below (hb1.mono hB)).at_ hh
    rw [Nat.zero_mul, Nat.add_zero] at z0 z1
    have hbz := hb1.size
    have hb2w : b2 < w1.heap.size := by omega
    clear hh
    by_cases hl0 : l = []
    · have HLt : Hid (lateB l e = false) := by show _ = _; rw [hl0]; exact lateB_nil e
      have d0 : ¬ (0 : Int) < (l.length : Int) := by rw [hl0]; simp
      have d1 : decide ((0 : Int) < (l.length : Int)) = false := decide_eq_false d0
      have d2 : decide (0 < l.length) = false := decide_eq_false (by omega)
      clear hl0
      go_quiet (fail)
      have hbq := below_drewN hb1 nq
      clear hb1 hb2w hbz z0 z1
      generalize w1.drewN nq = w3 at hbq ⊢
      have q1 : EntsAt w3 B C1 l := h1.below (hbq.mono hB)
      have q2 : EntsAt w3 B (some ⟨b2, o2, none⟩) e := h2.below (hbq.mono hB)
      have hz1 := hbq.size
      have KF := full_any l e C1 (some ⟨b2, o2, none⟩) c1 c2 w3.heap.size (w3.alloc (.cells #[.slice C1 l.length c1, .slice (some ⟨b2, o2, none⟩) e.length c2] 32)) (B := B) (q1.below ((Below.refl _ _).alloc (by omega) _)) (q2.below ((Below.refl _ _).alloc (by omega) _)) (by simp; omega) (by omega) (by omega) hI1 hI2 (by simp) (by simp) (by simp)
      unfold BoolIs at KF
      cases hf : fullB l e with
      | true =>
        have HR : Hid (postR l e = ([], 8)) := postR_full HP.out HLt.out hf
        rw [hf] at KF
        have KF := Lib.hid KF
        clear hf
        go_wp2_with (first | (go_at_call 32; (with_reducible refine KF.out.mono ?_); rintro x2 w2 ⟨rfl, hb2⟩) | fail)
        go_ret2
        exact PostRes.nil HR.out ((hbq.alloc (by omega) _).trans (hb2.mono (by simp; omega)))
      | false =>
        have HR : Hid (postR l e = (l ++ e, 0)) := postR_ok HP.out HLt.out hf
        rw [hf] at KF
        have KF := Lib.hid KF
        have KC := Lib.hid (fun (w2 : World) (hb : Below w3.heap.size w3 w2) => concat_any l e C1 (some ⟨b2, o2, none⟩) c1 c2 w2.heap.size (w2.alloc (.cells #[.slice C1 l.length c1, .slice (some ⟨b2, o2, none⟩) e.length c2] 32)) (B := B) ((q1.below (hb.mono (by omega))).below ((Below.refl _ _).alloc (by have := hb.size; omega) _)) ((q2.below (hb.mono (by omega))).below ((Below.refl _ _).alloc (by have := hb.size; omega) _)) (by have := hb.size; simp; omega) (by omega) (by omega) (by omega) (by simp) (by simp) (by simp))
        clear hf
        go_wp2_with (first | (go_at_call 32; (with_reducible refine KF.out.mono ?_); rintro x2 w2 ⟨rfl, hb2⟩; have hb3 : Below w3.heap.size w3 w2 := ((Below.refl _ _).alloc (Nat.le_refl _) _).trans (hb2.mono (by simp))) | (go_at_call 33; (with_reducible refine (KC.out _ hb3).mono ?_); rintro x4 w4 ⟨v4, rfl, hown, hb4⟩) | fail)
        have hz2 := hb3.size
        have hbF : Below w.heap.size w w4 := ((hbq.trans (hb3.mono hz1)).alloc (by omega) _).trans (hb4.mono (by simp; omega))
        obtain ⟨D, dc, he, hD, hF⟩ := ents_of_owns hown
        have hcap := owns_cap hown he
        subst he
        clear hown
        go_wp2_with fail
        go_ret2
        rw [HR.out]
        exact ⟨D, dc, rfl, hcap, hD, fun a ha => by have := hF a ha; simp at this; omega, hbF⟩
    · obtain ⟨n, hn⟩ : ∃ n, l.length = n + 1 := ⟨l.length - 1, by have := List.length_pos_iff.2 hl0; omega⟩
      obtain ⟨q, hq⟩ : ∃ q, l[n]? = some q := ⟨_, List.getElem?_eq_getElem (by omega)⟩
      obtain ⟨b1, o1, rfl, hb1', y0, y1, _⟩ := (h1.below (hb1.mono hB)).at_ hq
      have hb1w : b1 < w1.heap.size := by omega
      have hlate := lateB_of hn hq HH.out
      have v1 : IntKind.i64.wrap ((l.length : Int) - 1) = (n : Int) := by rw [IntKind.wrap_i64]; omega
      have v2 : (l.length : Int) - 1 = (n : Int) := by omega
      have v3 : IntKind.i64.wrap (n : Int) = (n : Int) := by rw [IntKind.wrap_i64]; omega
      have v4 : (n : Int) < (l.length : Int) := by omega
      have v5 : (0 : Int) < (l.length : Int) := by omega
      have v6 : n < l.length := by omega
      have v7 : decide ((0 : Int) < (l.length : Int)) = true := decide_eq_true v5
      have v8 : decide (0 < l.length) = true := decide_eq_true (by omega)
      have hN := Lib.hid hn
      clear hn hq hl0
      by_cases hk : h.known < q.known
      · have d1 : decide (h.known < q.known) = true := decide_eq_true hk
        have HR : Hid (postR l e = ([], 15)) := postR_late HP.out (hlate.trans d1)
        clear hlate
        go_quiet (fail)
        go_wp2_with fail
        go_ret2
        exact PostRes.nil HR.out (below_drewN hb1 _)
      · have d1 : decide (h.known < q.known) = false := decide_eq_false hk
        have HLt : Hid (lateB l e = false) := hlate.trans d1
        clear hlate
        go_quiet (fail)
        have hbq := below_drewN hb1 nq
        clear hb1 hb2w hbz z0 z1 hb1w y0 y1
        generalize w1.drewN nq = w3 at hbq ⊢
        have q1 : EntsAt w3 B (some ⟨b1, o1, none⟩) l := h1.below (hbq.mono hB)
        have q2 : EntsAt w3 B (some ⟨b2, o2, none⟩) e := h2.below (hbq.mono hB)
        have hz1 := hbq.size
        have KF := full_any l e (some ⟨b1, o1, none⟩) (some ⟨b2, o2, none⟩) c1 c2 w3.heap.size (w3.alloc (.cells #[.slice (some ⟨b1, o1, none⟩) l.length c1, .slice (some ⟨b2, o2, none⟩) e.length c2] 32)) (B := B) (q1.below ((Below.refl _ _).alloc (by omega) _)) (q2.below ((Below.refl _ _).alloc (by omega) _)) (by simp; omega) (by omega) (by omega) hI1 hI2 (by simp) (by simp) (by simp)
        unfold BoolIs at KF
        cases hf : fullB l e with
        | true =>
          have HR : Hid (postR l e = ([], 8)) := postR_full HP.out HLt.out hf
          rw [hf] at KF
          have KF := Lib.hid KF
          clear hf
          go_wp2_with (first | (go_at_call 32; (with_reducible refine KF.out.mono ?_); rintro x2 w2 ⟨rfl, hb2⟩) | fail)
          go_ret2
          exact PostRes.nil HR.out ((hbq.alloc (by omega) _).trans (hb2.mono (by simp; omega)))
        | false =>
          have HR : Hid (postR l e = (l ++ e, 0)) := postR_ok HP.out HLt.out hf
          rw [hf] at KF
          have KF := Lib.hid KF
          have KC := Lib.hid (fun (w2 : World) (hb : Below w3.heap.size w3 w2) => concat_any l e (some ⟨b1, o1, none⟩) (some ⟨b2, o2, none⟩) c1 c2 w2.heap.size (w2.alloc (.cells #[.slice (some ⟨b1, o1, none⟩) l.length c1, .slice (some ⟨b2, o2, none⟩) e.length c2] 32)) (B := B) ((q1.below (hb.mono (by omega))).below ((Below.refl _ _).alloc (by have := hb.size; omega) _)) ((q2.below (hb.mono (by omega))).below ((Below.refl _ _).alloc (by have := hb.size; omega) _)) (by have := hb.size; simp; omega) (by omega) (by omega) (by omega) (by simp) (by simp) (by simp))
          clear hf
          go_wp2_with (first | (go_at_call 32; (with_reducible refine KF.out.mono ?_); rintro x2 w2 ⟨rfl, hb2⟩; have hb3 : Below w3.heap.size w3 w2 := ((Below.refl _ _).alloc (Nat.le_refl _) _).trans (hb2.mono (by simp))) | (go_at_call 33; (with_reducible refine (KC.out _ hb3).mono ?_); rintro x4 w4 ⟨v4, rfl, hown, hb4⟩) | fail)
          have hz2 := hb3.size
          have hbF : Below w.heap.size w w4 := ((hbq.trans (hb3.mono hz1)).alloc (by omega) _).trans (hb4.mono (by simp; omega))
          obtain ⟨D, dc, he, hD, hF⟩ := ents_of_owns hown
          have hcap := owns_cap hown he
          subst he
          clear hown
          go_wp2_with fail
          go_ret2
          rw [HR.out]
          exact ⟨D, dc, rfl, hcap, hD, fun a ha => by have := hF a ha; simp at this; omega, hbF⟩
end Go.Proofs.YtminphldifncaaaDoor
