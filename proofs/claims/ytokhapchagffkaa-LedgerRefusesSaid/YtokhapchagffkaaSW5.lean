/- The stable sort's walks: symMergeCmpFunc at all sizes, stableCmpFunc, SortStableFunc. -/
import Derived.Test.YtokhapchagffkaaSW2
import Derived.Test.YtokhapchagffkaaSW3
import Derived.Test.YtokhapchagffkaaSW4
import Derived.Shelf.SlLaysF0
set_option linter.unusedSimpArgs false
set_option linter.unusedVariables false
namespace Go.Proofs.Ytokhapchagffkaa
open Go.Shelf Go.RowKit Go.Lib Go.Sort
variable {α : Type} [Inhabited α]

theorem st_sym {P : Program} {k : Nat} (L : StL P k) (enc : α → List Value) (cf : α → α → Int) (g : Nat) (cb : Array Value) (blk off cap : Nat) (d0 : Array α) (w0 : World)
    (eg : ∀ args w, (callFunc g args).run P w = .ok (.enter g args) w) (hcmp : CmpLays P g cb enc k cf blk off d0.size w0) (R : RowK enc k w0 blk off d0) (hsz : d0.size < 4611686018427387904) :
    ∀ (N a m b : Nat) (d : Array α) (w : World), b - a ≤ N → a < m → m < b → b ≤ d0.size → d.size = d0.size → SWK enc k w0 blk off d w →
    Calls P 40 #[.slice (some ⟨blk, off, none⟩) d0.size cap, .int .i64 a, .int .i64 m, .int .i64 b, .func (.func g) #[] cb] w fun e w' =>
      e = .returned (.tuple #[]) ∧ Aside (SWK enc k w0 blk off (ST.symM (ltOf cf) a m b d) w') := by
  intro N
  induction N with
  | zero => intro a m b d w h1 h2 h3; omega
  | succ N ih =>
    intro a m b d w hN ham hmb hb hds S
    by_cases h1 : m - a = 1
    · exact st_sym_left L enc cf g cb blk off cap d0 w0 eg hcmp R hsz a m b d w ham (by omega) hmb hb hds S
    · by_cases h2 : b - m = 1
      · exact st_sym_right L enc cf g cb blk off cap d0 w0 eg hcmp R hsz a m b d w ham h1 hmb (by omega) hb hds S
      · by_cases h3 : m > (a + b) / 2
        · exact st_sym_up L enc cf g cb blk off cap d0 w0 eg hcmp R hsz N ih a m b d w hN ham hmb h1 h2 hb hds h3 S
        · exact st_sym_low L enc cf g cb blk off cap d0 w0 eg hcmp R hsz N ih a m b d w hN ham hmb h1 h2 hb hds h3 S

/-- The kit's contract of the insertion sort, at this program's numbers. -/
def insRen : Go.Shelf.Ren := ⟨fun | 20 => 39 | n => n, fun | 24 => 36 | 22 => 22 | 25 => 53 | n => n, fun n => n⟩
theorem insLays : SlLaysF0.n20 Try.prog insRen where
  mixed := by kernel_rfl
  f20 := ⟨"slices.insertionSortCmpFunc[bourne/api.Entry]", by kernel_rfl, Try.func39.trans (congrArg some (by kernel_rfl))⟩
  t0 := Try.underlying0
  a0 := Try.isAgg0
  z0 := Try.sizeOf0
  v0 := Try.zeroValue0
  t3 := Try.underlying3
  a3 := Try.isAgg3
  z3 := Try.sizeOf3
  v3 := Try.zeroValue3
  t4 := Try.underlying4
  a4 := Try.isAgg4
  z4 := Try.sizeOf4
  v4 := Try.zeroValue4
  t22 := Try.underlying22
  a22 := Try.isAgg22
  z22 := Try.sizeOf22
  v22 := Try.zeroValue22
  t25 := Try.underlying53
  a25 := Try.isAgg53
  z25 := Try.sizeOf53
  v25 := Try.zeroValue53

/-- The insertion sort, from a world of the sort's to another. -/
theorem st_ins (enc : α → List Value) (cf : α → α → Int) (g : Nat) (cb : Array Value) (blk off cap : Nat) (d0 : Array α) (w0 : World)
    (eg : ∀ args w, (callFunc g args).run Try.prog w = .ok (.enter g args) w) (hcmp : CmpLays Try.prog g cb enc 7 cf blk off d0.size w0) (R : RowK enc 7 w0 blk off d0) (hsz : d0.size < 4611686018427387904)
    (a b : Nat) (d : Array α) (w : World) (hab : a ≤ b) (hb : b ≤ d0.size) (hds : d.size = d0.size) (S : SWK enc 7 w0 blk off d w) :
    Calls Try.prog 39 #[.slice (some ⟨blk, off, none⟩) d0.size cap, .int .i64 a, .int .i64 b, .func (.func g) #[] cb] w fun e w' =>
      e = .returned (.tuple #[]) ∧ Aside (SWK enc 7 w0 blk off (Sort.insertionSort (ltOf cf) d a b) w') := by
  have hH : HoldsK enc 7 w blk off d := S.holds R.hblk R.hH hds
  have hc : CmpLays Try.prog g cb enc 7 cf blk off d.size w := fun m os dk hz x y => by
    obtain ⟨n, os', he⟩ := S.on R.hblk m dk os (by omega)
    rw [he]
    exact hcmp n os' dk (by omega) x y
  have := AnyQ.insertionSortCmpFunc insLays 7 Try.isAgg36 Try.sizeOf36 enc R.hk R.h1 cf g cb blk off cap a b d w eg hc hH (S.lt R.hblk) hab (by omega) (by omega)
  rw [hds] at this
  refine this.mono ?_
  rintro e w' ⟨rfl, n, os, rfl⟩
  exact ⟨rfl, S.on R.hblk n _ os (ST.insertionSort_size (ltOf cf) d a b)⟩
end Go.Proofs.Ytokhapchagffkaa
