/- Walks of small functions: Got, short. -/
import Derived.Test.YtkbceeobnbbfbaaW3
set_option linter.unusedSimpArgs false
set_option linter.unusedVariables false
namespace Go.Proofs.Ytkbceeobnbbfbaa
open Go.RowKit CM
attribute [local go_sem] alloc_drewN setCell_drewN shape_drewN

theorem gotG_of {G : List (Int × Int)} {k : Nat} {x : Int × Int} (h : G[k]? = some x) : gotG G k = x.2 := by unfold gotG; rw [List.getD_eq_getElem?_getD, h]; rfl
/-- What a right has, as the reference asks for it. -/
def gotI (G : List (Int × Int)) (i : Int) : Int := if 0 ≤ i then gotG G i.toNat else 0
theorem got_any (G : List (Int × Int)) (C : Option Addr) (cc : Nat) (i : Int) (w : World) {B : Nat} (hG : PairsAt w B C G) (hl : G.length ≤ 1000000) : Calls Try.prog 36 #[.slice C G.length cc, .int .i64 i] w (IntIs (gotI G i) w) := by
  by_cases h0 : i < 0
  · have hR : Hid (gotI G i = 0) := by show _ = _; unfold gotI; rw [if_neg (by omega)]
    go_enter Try.func36, Try.ntmps36
    go_wp2_with fail
    go_ret
    exact ⟨ret_int hR.out.symm, rfl⟩
  · obtain ⟨k, rfl⟩ : ∃ k : Nat, i = k := ⟨i.toNat, by omega⟩
    by_cases h1 : k < G.length
    · obtain ⟨x, hx⟩ : ∃ x, G[k]? = some x := ⟨_, List.getElem?_eq_getElem h1⟩
      obtain ⟨b, off, rfl, hb, c0, c1⟩ := hG.at_ hx
      have hR : Hid (gotI G k = x.2) := by show _ = _; unfold gotI; rw [if_pos (by omega), Int.toNat_natCast, gotG_of hx]
      clear hx
      go_enter Try.func36, Try.ntmps36
      go_wp2_with fail
      go_ret
      exact ⟨ret_int hR.out.symm, rfl⟩
    · have hR : Hid (gotI G k = 0) := by
        show _ = _; unfold gotI gotG; rw [if_pos (by omega), Int.toNat_natCast, List.getD_eq_getElem?_getD, List.getElem?_eq_none (by omega)]; rfl
      go_enter Try.func36, Try.ntmps36
      go_wp2_with fail
      go_ret
      exact ⟨ret_int hR.out.symm, rfl⟩
end Go.Proofs.Ytkbceeobnbbfbaa
