/- The walk of asof.Change. (Printed by gen_a1.py.) -/
import Derived.Test.YtminphldifncaaaDoorW10
set_option linter.unusedSimpArgs false
set_option linter.unusedVariables false
namespace Go.Proofs.YtminphldifncaaaDoor
open Go.RowKit LG Go.Sort
attribute [local go_sem] alloc_drewN setCell_drewN shape_drewN

namespace LG
def ltKnown (x y : Et) : Bool := decide (x.known < y.known)
def chgB (owner day k1 k2 : Int) (e : Et) : Bool := (decide (owner = -1) || decide (e.owner = owner)) && decide (e.day ≤ day) && decide (k1 < e.known) && decide (e.known ≤ k2)
end LG
def cfKnown (x y : Et) : Int := cmpI x.known y.known
theorem ltOf_known : ltOf cfKnown = ltKnown := by
  funext x y
  show decide (cfKnown x y < 0) = decide (x.known < y.known)
  unfold cfKnown cmpI
  rw [Bool.eq_iff_iff, decide_eq_true_iff, decide_eq_true_iff]
  split
  · omega
  · split <;> omega
theorem swoKnown : SWO ltKnown := ⟨fun x => by simp [ltKnown], fun x y z a b => by simp [ltKnown] at *; omega, fun x y z a b => by simp [ltKnown] at *; omega⟩
theorem closureK_any (x y : Et) (w : World) : Calls Tryd.prog 35 #[.agg (Et.cells x).toArray, .agg (Et.cells y).toArray] w fun e w' => e = .returned (.int .i64 (cfKnown x y)) ∧ ∃ q os', w' = grow (w.drewN q) os' := by
  show Calls Tryd.prog 35 #[.agg #[.int .i64 x.day, .int .i64 x.known, .int .i64 x.owner, .int .i64 x.place, .int .i64 x.litres, .int .i64 x.why, .int .i64 x.ref], .agg #[.int .i64 y.day, .int .i64 y.known, .int .i64 y.owner, .int .i64 y.place, .int .i64 y.litres, .int .i64 y.why, .int .i64 y.ref]] w _
  have K : Hid (∀ w, Calls Tryd.prog 36 #[.int .i64 x.known, .int .i64 y.known] w fun e w' => e = .returned (.int .i64 (cfKnown x y)) ∧ w = w') := fun w => compare_any _ _ w
  generalize cfKnown x y = r at K ⊢
  go_enter Tryd.func35, Tryd.ntmps35
  go_wp2_with (first | (go_at_call 36; (with_reducible refine (K.out _).mono ?_); rintro e1 w1 ⟨rfl, rfl⟩) | fail)
  go_ret
  exact ⟨rfl, 0, _, by rw [alloc_eq_grow, alloc_eq_grow, grow_grow]; rfl⟩
set_option maxHeartbeats 1000000 in
/-- The sort of a row of entries of the call's own, nil or not. -/
theorem sortK_any (A : List Et) (v : Value) (w : World) {base : Nat} (hv : w.ownsRow base 34 7 v A.length (rowE A)) (hb : base ≤ w.heap.size) (hA : A.length ≤ 1000000) :
    Calls Tryd.prog 34 #[v, .func (.func 35) #[] #[]] w fun x w' => x = .returned (.tuple #[]) ∧ ∃ C cc, v = .slice C A.length cc ∧ EntsAt w' w'.heap.size C (ST.insSort ltKnown A) ∧ (∀ a, C = some a → base ≤ a.block) ∧ Below base w w' := by
  by_cases hn : A.length = 0
  · obtain ⟨C, cc, rfl, _, hF⟩ := ents_of_owns hv
    obtain rfl : A = [] := List.eq_nil_of_length_eq_zero hn
    refine (sort_nil C cc _ w).mono ?_
    rintro x w' ⟨rfl, rfl⟩
    exact ⟨rfl, C, cc, rfl, EntsAt.nil _ _ _, hF, Below.refl _ _⟩
  · obtain ⟨g, cc, rfl, hbg, hgw, hcells⟩ := entsArr_of_owns hn hv
    have hH := holds_ents hcells
    have := st_sort (α := Et) Et.cells cfKnown 35 #[] g 0 cc A.toArray w (by rw [ltOf_known]; exact swoKnown) Tryd.call35 (fun m os dk _ x y => closureK_any x y _) ⟨cells_len, cells_one, hH, hgw⟩ (by simp; omega)
    rw [show A.toArray.size = A.length by simp] at this
    refine this.mono ?_
    rintro x w' ⟨rfl, d, hst, hsw⟩
    rw [ltOf_known] at hst
    have hd : d.toList = ST.insSort ltKnown A := ST.Stab.eq ltKnown swoKnown (by simpa using hst) (ST.insSort_stab ltKnown swoKnown A)
    have hbw := below_swk hsw hbg (by omega)
    refine ⟨rfl, _, cc, rfl, ?_, fun a ha => by cases ha; exact hbg, hbw⟩
    rw [← hd]
    have hds : d.size = A.toArray.size := by have := hst.length; simpa using this
    exact ents_of_holds (hsw.holds hgw hH hds) (by have := hbw.size; omega)
def changeR (l : List Et) (owner day k1 k2 : Int) : List Et := ST.insSort ltKnown (l.filter (chgB owner day k1 k2))
theorem insSortK_len (A : List Et) : (ST.insSort ltKnown A).length = A.length := (ST.insSort_stab ltKnown swoKnown A).length
theorem chgB_of {owner day k1 k2 : Int} {e : Et} {b0 b1 b2 b3 b4 : Bool} (h0 : (owner == -1) = b0) (h1 : (e.owner == owner) = b1) (h2 : decide (e.day ≤ day) = b2) (h3 : decide (k1 < e.known) = b3) (h4 : decide (e.known ≤ k2) = b4) : chgB owner day k1 k2 e = ((b0 || b1) && b2 && b3 && b4) := by
  subst h0 h1 h2 h3 h4; rfl
set_option maxRecDepth 100000 in
set_option maxHeartbeats 8000000 in
theorem change_any (l : List Et) (C : Option Addr) (cc : Nat) (owner day k1 k2 : Int) (w : World) {B : Nat} (hC : EntsAt w B C l) (hB : B ≤ w.heap.size) (hl : l.length ≤ 1000000) :
    Calls Tryd.prog 14 #[.slice C l.length cc, .int .i64 owner, .int .i64 day, .int .i64 k1, .int .i64 k2] w (EntsRes (changeR l owner day k1 k2) w) := by
  obtain ⟨i0, hi, hz0, hz1, hz2⟩ := info_parts Tryd.infoEntry
  have hL : Hid (changeR l owner day k1 k2 = ST.insSort ltKnown (filT (chgB owner day k1 k2) l l.length)) := by show _ = _; unfold changeR filT; rw [List.take_length]
  obtain ⟨acc, hacc⟩ : ∃ f : Nat → List Et, f = filT (chgB owner day k1 k2) l := ⟨_, rfl⟩
  have hstep : Hid (∀ k e, l[k]? = some e → acc (k + 1) = if chgB owner day k1 k2 e then acc k ++ [e] else acc k) := fun k e h => by rw [hacc]; exact filT_succ _ l h
  have hlenA : Hid (∀ k, (acc k).length ≤ l.length) := fun k => by rw [hacc]; exact filT_len _ l k
  have h0A : Hid (acc 0 = []) := by show _ = _; rw [hacc]; rfl
  rw [← hacc] at hL
  clear hacc
  go_enter Tryd.func14, Tryd.ntmps14
  go_wp2_with fail
  go_loopw [11, 16] (fun out i wr => ∃ k : Nat, k ≤ l.length ∧ i = .int .i64 k ∧ wr.ownsRow w.heap.size 34 7 out (acc k).length (rowE (acc k)) ∧ Below w.heap.size w wr ∧ w.heap.size ≤ wr.heap.size) (fun _ i _ => l.length - (intOf i).toNat)
  case atStart => exact ⟨0, Nat.zero_le _, rfl, by rw [h0A.out]; exact World.ownsRow_nil _ _ _ _, Below.refl _ _, Nat.le_refl _⟩
  case round =>
    obtain ⟨k, hk, rfl, hrow, hBw, hz⟩ := hrel
    by_cases hlt : k < l.length
    · obtain ⟨e, hx⟩ : ∃ e, l[k]? = some e := ⟨_, List.getElem?_eq_getElem hlt⟩
      obtain ⟨b, off, rfl, hb, r0, r1, r2, r3, r4, r5, r6⟩ := (hC.below (hBw.mono hB)).at_ hx
      have hs := hstep.out k e hx
      have hlen := hlenA.out k
      have hbw : b < wr.heap.size := by omega
      clear hx
      obtain ⟨b0, g0⟩ : ∃ b, (owner == -1) = b := ⟨_, rfl⟩
      obtain ⟨b1, g1⟩ : ∃ b, (e.owner == owner) = b := ⟨_, rfl⟩
      obtain ⟨b2, g2⟩ : ∃ b, decide (e.day ≤ day) = b := ⟨_, rfl⟩
      obtain ⟨b3, g3⟩ : ∃ b, decide (k1 < e.known) = b := ⟨_, rfl⟩
      obtain ⟨b4, g4⟩ : ∃ b, decide (e.known ≤ k2) = b := ⟨_, rfl⟩
      rw [chgB_of g0 g1 g2 g3 g4] at hs
      have HS := Lib.hid hs
      clear hs
      go_wp2_with (first | (at_builtin; refine wpList_append_own _ rfl _ _ 32 rfl w.heap.size 34 i0 _ 7 56 Tryd.underlying32 hi hz0 hz1 hz2 rfl (by decide) _ (acc k).length _ rfl ((hrow.alloc _).alloc _) ⟨wr.heap.size + 1, 0, none⟩ 1 1 e.cells rfl rfl (cells_at (by simp) _ _) (cells_one e) (by unfold maxLen; omega) (by omega) (by simp; omega) ?_; intro v' w2 hown' hgrow _; obtain ⟨g', cap', rfl, hgq1, hgq2⟩ := hown'.form (by omega); have hb2 := below_app (hrow.alloc _) (by simp; omega) hgrow) | fail)
      all_goals first
        | (go_roundw
           case rel =>
             have hs2 := HS.out
             rw [if_pos (by simp [*])] at hs2
             exact ⟨k + 1, by omega, by go_num, by rw [hs2, rowE_snoc, List.length_append]; exact hown', (hBw.alloc hz _).trans hb2, by have := hb2.size; simp at this; omega⟩
           case measure => simp [intOf]; omega)
        | (go_roundw
           case rel =>
             have hs2 := HS.out
             rw [if_neg (by simp [*])] at hs2
             exact ⟨k + 1, by omega, by go_num, by rw [hs2]; exact hrow.alloc _, hBw.alloc hz _, by simp; omega⟩
           case measure => simp [intOf]; omega)
        | fail
    · have hke : k = l.length := by omega
      subst hke
      have hlen := hlenA.out l.length
      have K := Lib.hid (sortK_any (acc l.length) u11 wr hrow hz (by omega))
      have hfm := (ents_of_owns hrow)
      obtain ⟨D, cd, he, _, _⟩ := hfm
      have hcap := owns_cap hrow he
      subst he
      clear hrow
      go_wp2_with (first | (go_at_call 34; (with_reducible refine K.out.mono ?_); rintro x1 w1 ⟨rfl, C1, c1, he1, hE, hF, hb1⟩; have HE1 := Lib.hid he1; clear he1) | fail)
      have he1 := HE1.out
      injection he1 with q1 q2 q3
      subst q1
      subst q3
      go_ret
      rw [hL.out]
      exact ⟨D, cd, by rw [insSortK_len]; rfl, by rw [insSortK_len]; exact hcap, hE, hBw.trans hb1⟩
end Go.Proofs.YtminphldifncaaaDoor
