/- The walks of the reference's before and augment. -/
import Derived.Test.YtanhhdfffggdmaaY3
import Derived.Test.YtanhhdfffggdmaaX6
namespace Go.Proofs.Ytanhhdfffggdmaa
open Go.RowKit FM
attribute [local go_sem] alloc_drewN setCell_drewN shape_drewN

def BeforeSaid (A : List Arc) (k : Nat) (w : World) (e : Ending) (w' : World) : Prop := e = .returned (.int .i64 (fr A k)) ∧ Below w.heap.size w w'
theorem before_any (C : Option Addr) (cc : Nat) (A : List Arc) (g n c v k : Nat) (by_ : Int → Int) (w : World) {B : Nat} (hC : ArcsAt w B C A) (hG : Arr w g n (byV by_)) (hv : v < n) (hk : by_ v = k) (hkl : k < 2 * A.length) (hm : A.length ≤ 4096) (hn : n ≤ 256) :
    Calls Try.prog 32 #[.slice C A.length cc, .slice (some ⟨g, 0, none⟩) n c, .int .i64 v] w (BeforeSaid A k w) := by
  obtain ⟨i, hi⟩ : ∃ i, i = k / 2 := ⟨_, rfl⟩
  have hil : i < A.length := by omega
  obtain ⟨b, off, x, y, z, rfl, hbb, ha, c0, c1, c2⟩ := hC.at_ hil
  obtain ⟨f1, f2, f3, f4⟩ := fr_two ha.out
  have hmv := (hG v hv).1
  simp only [byV, hk] at hmv
  have hgl := World.block_lt_of_cell? w _ hmv
  have hg7 : g < w.heap.size := hgl
  rcases Nat.mod_two_eq_zero_or_one k with p | p
  · obtain rfl : k = 2 * i := by omega
    have Hf := Lib.hid f1
    rw [show ((2 * i : Nat) : Int) = 2 * (i : Int) by omega] at hmv
    have hmva := (old_cell (.cells #[.int .i64 x, .int .i64 y, .int .i64 z] 37) hg7).trans hmv
    have e1 : 2 * (i : Int) / 2 = (i : Int) := by omega
    have e2 : 2 * (i : Int) % 2 = 0 := by omega
    have e3 : 0 ≤ 2 * (i : Int) := by omega
    have e4 : (i : Int) < (A.length : Int) := by omega
    clear f1 f2 f3 f4 p hi hk hkl
    go_enter Try.func32, Try.ntmps32
    go_wp2_with fail
    go_ret
    exact ⟨by rw [Hf.out]; rfl, below_new _ _⟩
  · obtain rfl : k = 2 * i + 1 := by omega
    have Hf := Lib.hid f3
    rw [show ((2 * i + 1 : Nat) : Int) = 2 * (i : Int) + 1 by omega] at hmv
    have hmva := (old_cell (.cells #[.int .i64 x, .int .i64 y, .int .i64 z] 37) hg7).trans hmv
    have e1 : (2 * (i : Int) + 1) / 2 = (i : Int) := by omega
    have e2 : (2 * (i : Int) + 1) % 2 = 1 := by omega
    have e3 : 0 ≤ 2 * (i : Int) + 1 := by omega
    have e4 : (i : Int) < (A.length : Int) := by omega
    clear f1 f2 f3 f4 p hi hk hkl
    go_enter Try.func32, Try.ntmps32
    go_wp2_with fail
    go_ret
    exact ⟨by rw [Hf.out]; rfl, below_new _ _⟩
end Go.Proofs.Ytanhhdfffggdmaa
