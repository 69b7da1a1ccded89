/- The stable sort's walks: symMergeCmpFunc at all sizes, stableCmpFunc, SortStableFunc. -/
import Derived.Test.YtminphldifncaaaDoorSW2
import Derived.Test.YtminphldifncaaaDoorSW3
import Derived.Test.YtminphldifncaaaDoorSW4
import Derived.Shelf.SlLaysF0
set_option linter.unusedSimpArgs false
set_option linter.unusedVariables false
namespace Go.Proofs.YtminphldifncaaaDoor
open Go.Shelf Go.RowKit Go.Lib Go.Sort
variable {α : Type} [Inhabited α]

theorem st_sym {P : Program} {k : Nat} (L : StL P k) (enc : α → List Value) (cf : α → α → Int) (g : Nat) (cb : Array Value) (blk off cap : Nat) (d0 : Array α) (w0 : World)
    (eg : ∀ args w, (callFunc g args).run P w = .ok (.enter g args) w) (hcmp : CmpLays P g cb enc k cf blk off d0.size w0) (R : RowK enc k w0 blk off d0) (hsz : d0.size < 4611686018427387904) :
    ∀ (N a m b : Nat) (d : Array α) (w : World), b - a ≤ N → a < m → m < b → b ≤ d0.size → d.size = d0.size → SWK enc k w0 blk off d w →
    Calls P 70 #[.slice (some ⟨blk, off, none⟩) d0.size cap, .int .i64 a, .int .i64 m, .int .i64 b, .func (.func g) #[] cb] w fun e w' =>
      e = .returned (.tuple #[]) ∧ Aside (SWK enc k w0 blk off (ST.symM (ltOf cf) a m b d) w') := by
  intro N
  induction N with
  | zero => intro a m b d w h1 h2 h3; omega
  | succ N ih =>
    intro a m b d w hN ham hmb hb hds S
    by_cases h1 : m - a = 1
    · exact st_sym_left L enc cf g cb blk off cap d0 w0 eg hcmp R hsz a m b d w ham (by omega) hmb hb hds S
    · by_cases h2 : b - m = 1
      · exact st_sym_right L enc cf g cb blk off cap d0 w0 eg hcmp R hsz a m b d w ham h1 hmb (by omega) hb hds S
      · by_cases h3 : m > (a + b) / 2
        · exact st_sym_up L enc cf g cb blk off cap d0 w0 eg hcmp R hsz N ih a m b d w hN ham hmb h1 h2 hb hds h3 S
        · exact st_sym_low L enc cf g cb blk off cap d0 w0 eg hcmp R hsz N ih a m b d w hN ham hmb h1 h2 hb hds h3 S

/-- The kit's contract of the insertion sort, at this program's numbers. -/
def insRen : Go.Shelf.Ren := ⟨fun | 20 => 69 | n => n, fun | 24 => 34 | 22 => 32 | 25 => 68 | n => n, fun n => n⟩
theorem insLays : SlLaysF0.n20 Tryd.prog insRen where
  mixed := by kernel_rfl
  f20 := ⟨"slices.insertionSortCmpFunc[bourne/api.Entry]", by kernel_rfl, Tryd.func69.trans (congrArg some (by kernel_rfl))⟩
  t0 := Tryd.underlying0
  a0 := Tryd.isAgg0
  z0 := Tryd.sizeOf0
  v0 := Tryd.zeroValue0
  t3 := Tryd.underlying3
  a3 := Tryd.isAgg3
  z3 := Tryd.sizeOf3
  v3 := Tryd.zeroValue3
  t4 := Tryd.underlying4
  a4 := Tryd.isAgg4
  z4 := Tryd.sizeOf4
  v4 := Tryd.zeroValue4
  t22 := Tryd.underlying32
  a22 := Tryd.isAgg32
  z22 := Tryd.sizeOf32
  v22 := Tryd.zeroValue32
  t25 := Tryd.underlying68
  a25 := Tryd.isAgg68
  z25 := Tryd.sizeOf68
  v25 := Tryd.zeroValue68

/-- The insertion sort, from a world of the sort's to another. -/
theorem st_ins (enc : α → List Value) (cf : α → α → Int) (g : Nat) (cb : Array Value) (blk off cap : Nat) (d0 : Array α) (w0 : World)
    (eg : ∀ args w, (callFunc g args).run Tryd.prog w = .ok (.enter g args) w) (hcmp : CmpLays Tryd.prog g cb enc 7 cf blk off d0.size w0) (R : RowK enc 7 w0 blk off d0) (hsz : d0.size < 4611686018427387904)
    (a b : Nat) (d : Array α) (w : World) (hab : a ≤ b) (hb : b ≤ d0.size) (hds : d.size = d0.size) (S : SWK enc 7 w0 blk off d w) :
    Calls Tryd.prog 69 #[.slice (some ⟨blk, off, none⟩) d0.size cap, .int .i64 a, .int .i64 b, .func (.func g) #[] cb] w fun e w' =>
      e = .returned (.tuple #[]) ∧ Aside (SWK enc 7 w0 blk off (Sort.insertionSort (ltOf cf) d a b) w') := by
  have hH : HoldsK enc 7 w blk off d := S.holds R.hblk R.hH hds
  have hc : CmpLays Tryd.prog g cb enc 7 cf blk off d.size w := fun m os dk hz x y => by
    obtain ⟨n, os', he⟩ := S.on R.hblk m dk os (by omega)
    rw [he]
    exact hcmp n os' dk (by omega) x y
  have := AnyQ.insertionSortCmpFunc insLays 7 Tryd.isAgg34 Tryd.sizeOf34 enc R.hk R.h1 cf g cb blk off cap a b d w eg hc hH (S.lt R.hblk) hab (by omega) (by omega)
  rw [hds] at this
  refine this.mono ?_
  rintro e w' ⟨rfl, n, os, rfl⟩
  exact ⟨rfl, S.on R.hblk n _ os (ST.insertionSort_size (ltOf cf) d a b)⟩
end Go.Proofs.YtminphldifncaaaDoor
