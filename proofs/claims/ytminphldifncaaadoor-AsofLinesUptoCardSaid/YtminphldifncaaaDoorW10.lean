/- The walk of Lines. -/
import Derived.Test.YtminphldifncaaaDoorW9
set_option linter.unusedSimpArgs false
set_option linter.unusedVariables false
namespace Go.Proofs.YtminphldifncaaaDoor
open Go.RowKit LG
attribute [local go_sem] alloc_drewN setCell_drewN shape_drewN

theorem cells_at {w : World} {b : Nat} (hb : w.heap.size = b) (t : Nat) (xs : List Value) : ∀ j u, xs[j]? = some u → (w.alloc (.cells xs.toArray t)).cell? ((⟨b, 0, none⟩ : Addr).add j) = some u := by
  subst hb
  intro j u hj
  rw [Addr.add_lit, World.cell?_alloc_new]
  simpa using hj
def linesR (l : List Et) (owner fr un known : Int) : List Et := ST.insSort ltDay (l.filter (lineB owner fr un known))
def EntsRes (L : List Et) (w : World) (x : Ending) (w' : World) : Prop := ∃ C cc, x = .returned (.slice C L.length cc) ∧ L.length ≤ cc ∧ EntsAt w' w'.heap.size C L ∧ Below w.heap.size w w'
def filT (p : Et → Bool) (l : List Et) (k : Nat) : List Et := (l.take k).filter p
theorem filT_succ (p : Et → Bool) (l : List Et) {k : Nat} {e : Et} (h : l[k]? = some e) : filT p l (k + 1) = if p e then filT p l k ++ [e] else filT p l k := by
  unfold filT
  rw [List.take_add_one, h]
  cases hp : p e <;> simp [hp]
theorem filT_len (p : Et → Bool) (l : List Et) (k : Nat) : (filT p l k).length ≤ l.length := by
  unfold filT
  exact Nat.le_trans (List.length_filter_le _ _) (by rw [List.length_take]; omega)
theorem insSort_len (A : List Et) : (ST.insSort ltDay A).length = A.length := (ST.insSort_stab ltDay swoDay A).length
theorem lineB_of {owner fr un known : Int} {e : Et} {b1 b2 b3 : Bool} (h1 : (e.owner == owner) = b1) (h2 : wit e.day fr un = b2) (h3 : decide (e.known ≤ known) = b3) : lineB owner fr un known e = (b1 && b2 && b3) := by
  subst h1 h2 h3; rfl
set_option maxRecDepth 100000 in
set_option maxHeartbeats 8000000 in
theorem lines_any (l : List Et) (C : Option Addr) (cc : Nat) (owner fr un known : Int) (w : World) {B : Nat} (hC : EntsAt w B C l) (hB : B ≤ w.heap.size) (hl : l.length ≤ 1000000) :
    Calls Tryd.prog 26 #[.slice C l.length cc, .int .i64 owner, .int .i64 fr, .int .i64 un, .int .i64 known] w (EntsRes (linesR l owner fr un known) w) := by
  obtain ⟨i0, hi, hz0, hz1, hz2⟩ := info_parts Tryd.infoEntry
  have hL : Hid (linesR l owner fr un known = ST.insSort ltDay (filT (lineB owner fr un known) l l.length)) := by show _ = _; unfold linesR filT; rw [List.take_length]
  obtain ⟨acc, hacc⟩ : ∃ f : Nat → List Et, f = filT (lineB owner fr un known) l := ⟨_, rfl⟩
  have hstep : Hid (∀ k e, l[k]? = some e → acc (k + 1) = if lineB owner fr un known e then acc k ++ [e] else acc k) := fun k e h => by rw [hacc]; exact filT_succ _ l h
  have hlenA : Hid (∀ k, (acc k).length ≤ l.length) := fun k => by rw [hacc]; exact filT_len _ l k
  have h0A : Hid (acc 0 = []) := by show _ = _; rw [hacc]; rfl
  rw [← hacc] at hL
  have KW := fun n a b w => within_any n a b w
  clear hacc
  go_enter Tryd.func26, Tryd.ntmps26
  go_wp2_with fail
  go_loopw [11, 16] (fun out i wr => ∃ k : Nat, k ≤ l.length ∧ i = .int .i64 k ∧ wr.ownsRow w.heap.size 34 7 out (acc k).length (rowE (acc k)) ∧ Below w.heap.size w wr ∧ w.heap.size ≤ wr.heap.size) (fun _ i _ => l.length - (intOf i).toNat)
  case atStart => exact ⟨0, Nat.zero_le _, rfl, by rw [h0A.out]; exact World.ownsRow_nil _ _ _ _, Below.refl _ _, Nat.le_refl _⟩
  case round =>
    obtain ⟨k, hk, rfl, hrow, hBw, hz⟩ := hrel
    by_cases hlt : k < l.length
    · obtain ⟨e, hx⟩ : ∃ e, l[k]? = some e := ⟨_, List.getElem?_eq_getElem hlt⟩
      obtain ⟨b, off, rfl, hb, r0, r1, r2, r3, r4, r5, r6⟩ := (hC.below (hBw.mono hB)).at_ hx
      have hs := hstep.out k e hx
      have hlen := hlenA.out k
      have hbw : b < wr.heap.size := by omega
      clear hx
      obtain ⟨b1, g1⟩ : ∃ b, (e.owner == owner) = b := ⟨_, rfl⟩
      obtain ⟨b2, g2⟩ : ∃ b, wit e.day fr un = b := ⟨_, rfl⟩
      obtain ⟨b3, g3⟩ : ∃ b, decide (e.known ≤ known) = b := ⟨_, rfl⟩
      rw [lineB_of g1 g2 g3] at hs
      have HS := Lib.hid hs
      have KD : Hid (∀ w, Calls Tryd.prog 49 #[.int .i64 e.day, .int .i64 fr, .int .i64 un] w fun x w' => x = .returned (.bool b2) ∧ w = w') := fun w => by rw [← g2]; exact KW _ _ _ w
      clear hs g2
      go_wp2_with (first | (go_at_call 49; (with_reducible refine (KD.out _).mono ?_); rintro e1 w1 ⟨rfl, rfl⟩) | (at_builtin; refine wpList_append_own _ rfl _ _ 32 rfl w.heap.size 34 i0 _ 7 56 Tryd.underlying32 hi hz0 hz1 hz2 rfl (by decide) _ (acc k).length _ rfl ((hrow.alloc _).alloc _) ⟨wr.heap.size + 1, 0, none⟩ 1 1 e.cells rfl rfl (cells_at (by simp) _ _) (cells_one e) (by unfold maxLen; omega) (by omega) (by simp; omega) ?_; intro v' w2 hown' hgrow _; obtain ⟨g', cap', rfl, hgq1, hgq2⟩ := hown'.form (by omega); have hb2 := below_app (hrow.alloc _) (by simp; omega) hgrow) | fail)
      all_goals first
        | (go_roundw
           case rel =>
             have hs2 := HS.out
             rw [if_pos (by simp [*])] at hs2
             exact ⟨k + 1, by omega, by go_num, by rw [hs2, rowE_snoc, List.length_append]; exact hown', (hBw.alloc hz _).trans hb2, by have := hb2.size; simp at this; omega⟩
           case measure => simp [intOf]; omega)
        | (go_roundw
           case rel =>
             have hs2 := HS.out
             rw [if_neg (by simp [*])] at hs2
             exact ⟨k + 1, by omega, by go_num, by rw [hs2]; exact hrow.alloc _, hBw.alloc hz _, by simp; omega⟩
           case measure => simp [intOf]; omega)
        | fail
    · have hke : k = l.length := by omega
      subst hke
      have hlen := hlenA.out l.length
      have K := Lib.hid (sort_any (acc l.length) u11 wr hrow hz (by omega))
      have hfm := (ents_of_owns hrow)
      obtain ⟨D, cd, he, _, _⟩ := hfm
      have hcap := owns_cap hrow he
      subst he
      clear hrow
      go_wp2_with (first | (go_at_call 34; (with_reducible refine K.out.mono ?_); rintro x1 w1 ⟨rfl, C1, c1, he1, hE, hF, hb1⟩; have HE1 := Lib.hid he1; clear he1) | fail)
      have he1 := HE1.out
      injection he1 with q1 q2 q3
      subst q1
      subst q3
      go_ret
      rw [hL.out]
      exact ⟨D, cd, by rw [insSort_len]; rfl, by rw [insSort_len]; exact hcap, hE, hBw.trans hb1⟩
end Go.Proofs.YtminphldifncaaaDoor
