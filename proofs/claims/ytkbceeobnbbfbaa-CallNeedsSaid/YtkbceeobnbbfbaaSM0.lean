/- The fixed example: its numbers; the walk of fork. -/
import Derived.Test.YtkbceeobnbbfbaaCK0
import Derived.Test.YtkbceeobnbbfbaaV2
import Derived.Test.YtkbceeobnbbfbaaV7
set_option linter.unusedSimpArgs false
set_option linter.unusedVariables false
namespace Go.Proofs.Ytkbceeobnbbfbaa
open Go.RowKit CM
attribute [local go_sem] alloc_drewN setCell_drewN shape_drewN

def pl0 : Pl := [(2, 0), (2, 0), (-1, 0), (-1, 0)]
def R0 : List Rt := [⟨1, 0, 0, 2, 30, 0, 0, 0, 0⟩, ⟨2, 0, 0, 0, 8, 0, 0, 0, 0⟩, ⟨3, 0, 0, 1, 8, 0, 0, 0, 0⟩, ⟨4, 0, 0, 3, 3, 0, 0, 0, 0⟩]
def S0 : List Int := [10, 20, 5, 9]
def G0 : List (Int × Int) := [(1, 30), (2, 5), (3, 0), (4, 3)]
def x0L : List (Int × Int) := [(2, 4), (3, 4)]
def X0 (P : Option Addr) : Bas := ⟨⟨#[]⟩, none, 0, 0, 0, P, 4, none, 0, 0, none, 0, 0, none, 0, 0, none, 0, 0, none, 0, 0, none, 0, 0, 0⟩
theorem day0 : dayLs pl0 R0 S0 = G0 := by decide +kernel
theorem exc0 : excN pl0 R0 S0 G0 = x0L := by decide +kernel
theorem short0 : shortL pl0 R0 G0 = [2, 3] := by decide +kernel
theorem stop01 : stopI pl0 R0 S0 G0 1 = 2 := by decide +kernel
theorem stop03 : stopI pl0 R0 S0 G0 3 = -1 := by decide +kernel
theorem chk0 : chkN pl0 R0 S0 G0 x0L = true := by decide +kernel
theorem chk1 : chkN pl0 R0 S0 G0 [(2, 4)] = false := by decide +kernel
theorem fut3 : futF pl0 2 3 = true := by decide +kernel
theorem fut2 : futF pl0 2 1 = false := by decide +kernel
theorem S0_in : ∀ x ∈ S0, In64 x := by unfold In64; decide +kernel
def ForkIs (w : World) (e : Ending) (w' : World) : Prop := ∃ b, e = .returned (.agg #[.string ⟨#[]⟩, .slice none 0 0, .int .i64 0, .slice (some ⟨b, 0, none⟩) 4 4, .slice none 0 0, .slice none 0 0, .slice none 0 0, .slice none 0 0, .slice none 0 0, .slice none 0 0, .int .i64 0]) ∧
  PlacesAt w' w'.heap.size (some ⟨b, 0, none⟩) pl0 ∧ Below w.heap.size w w'
set_option maxRecDepth 100000 in
set_option maxHeartbeats 4000000 in
theorem fork_any (w : World) : Calls Try.prog 27 #[] w (ForkIs w) := by
  go_enter Try.func27, Try.ntmps27
  go_wp2_with fail
  refine bodyPost_ret (v := .agg #[.string ⟨#[]⟩, .slice none 0 0, .int .i64 0, .slice (some ⟨w.heap.size + 1, 0, none⟩) 4 4, .slice none 0 0, .slice none 0 0, .slice none 0 0, .slice none 0 0, .slice none 0 0, .slice none 0 0, .int .i64 0]) (by simp [results, Try.results27, go_sem]) rfl ?_
  refine ⟨w.heap.size + 1, rfl, fun _ => ⟨w.heap.size + 1, 0, rfl, by simp, fun k hk => ?_⟩, ((Below.refl _ _).alloc (Nat.le_refl _) _).alloc (by simp) _⟩
  have hk : k < 4 := hk
  match k, hk with
  | 0, _ => constructor <;> go_simp <;> rfl
  | 1, _ => constructor <;> go_simp <;> rfl
  | 2, _ => constructor <;> go_simp <;> rfl
  | 3, _ => constructor <;> go_simp <;> rfl
end Go.Proofs.Ytkbceeobnbbfbaa
