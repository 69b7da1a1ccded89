/- The walk of small: the fixed basin answers as documented. -/
import Derived.Deep.Cut
import Derived.Test.YtphebdmdbnpokaaSM0
import Derived.Test.YtphebdmdbnpokaaR4
import Derived.Test.YtphebdmdbnpokaaR6
import Derived.Test.YtphebdmdbnpokaaR7
import Derived.Test.YtphebdmdbnpokaaS1
set_option linter.unusedSimpArgs false
set_option linter.unusedVariables false
namespace Go.Proofs.Ytphebdmdbnpokaa
open Go.RowKit RD FM
theorem flat_get {α : Type} {f : α → List Value} {k : Nat} (hk : ∀ a, (f a).length = k) : ∀ (R : List α) (i : Nat) (r : α) (j : Nat) (v : Value), R[i]? = some r → (f r)[j]? = some v → (R.flatMap f)[i * k + j]? = some v
  | [], i, r, j, v, h, _ => by simp at h
  | s :: R, 0, r, j, v, h, hv => by
    obtain rfl : s = r := by simpa using h
    have hj : j < (f s).length := (List.getElem?_eq_some_iff.1 hv).1
    rw [List.flatMap_cons, Nat.zero_mul, Nat.zero_add, List.getElem?_append_left hj, hv]
  | s :: R, i + 1, r, j, v, h, hv => by
    have ih := flat_get hk R i r j v (by simpa using h) hv
    have hl : (f s).length = k := hk s
    have hm : (i + 1) * k = i * k + k := Nat.succ_mul i k
    rw [List.flatMap_cons, List.getElem?_append_right (by rw [hl]; omega), hl, show (i + 1) * k + j - k = i * k + j by omega, ih]
theorem cell_blk {w : World} {b : Nat} {cs : Array Value} {t : TypeId} (h : w.heap[b]? = some (.cells cs t (0, 0))) (i : Nat) : w.cell? ⟨b, i, none⟩ = cs[i]? := by simp [World.cell?, h]
theorem rows_of_block {α : Type} {f : α → List Value} {k : Nat} (hk : ∀ a, (f a).length = k) {w : World} {b B : Nat} {A : List α} {t : TypeId} (h : w.heap[b]? = some (.cells (A.flatMap f).toArray t (0, 0))) (hb : b < B) : RowAt f k w B (some ⟨b, 0, none⟩) A := fun _ =>
  ⟨b, 0, rfl, hb, fun i r hr j v hv => by
    rw [Nat.zero_add, cell_blk h]
    simp only [List.getElem?_toArray]
    exact flat_get hk A i r j v hr hv⟩
theorem ints_of_block {w : World} {b B : Nat} {A : List Int} {t : TypeId} (h : w.heap[b]? = some (.cells (A.map (Value.int .i64)).toArray t (0, 0))) (hb : b < B) : IntsAt w B (some ⟨b, 0, none⟩) A := fun _ =>
  ⟨b, 0, rfl, hb, fun j hj => by rw [Nat.zero_add, cell_blk h]; simp [intF, List.getD_eq_getElem?_getD, hj]⟩
theorem new_heap (w : World) (o : Obj) : (w.alloc o).heap[w.heap.size]? = some o := by show (w.heap.push o)[w.heap.size]? = _; simp
theorem old_heap {w : World} (o : Obj) {k : Nat} {x : Obj} (h : w.heap[k]? = some x) : (w.alloc o).heap[k]? = some x := by
  have hk : k < w.heap.size := (Array.getElem?_eq_some_iff.1 h).1
  exact (Below.heap_alloc w o k hk).trans h
theorem infoPlace : ((Try.prog.info? 124).any fun i => i.zero.isSome && decide (i.bytes ≤ 1000)) = true := by kernel_rfl
theorem make_place : ∃ M : Array Value, ∀ wx : World, (Instr.makeSlice 23 (.int .i64 1) (.int .i64 1)).run Try.prog wx = .ok (.slice (some ⟨wx.heap.size, 0, none⟩) 1 1) (wx.alloc (.cells M 124)) := by
  have h := infoPlace
  obtain ⟨i, hi⟩ : ∃ i, Try.prog.info? 124 = some i := by
    cases e : Try.prog.info? 124 with
    | none => rw [e] at h; cases h
    | some i => exact ⟨i, rfl⟩
  rw [hi] at h
  simp only [Option.any_some, Bool.and_eq_true, decide_eq_true_eq] at h
  obtain ⟨z, hz⟩ := Option.isSome_iff_exists.1 h.1
  refine ⟨madeCells z.cells (1 * i.size), fun wx => ?_⟩
  have hr := run_make (P := Try.prog) wx 23 124 i z Try.underlying23 hi hz .i64 .i64 1 1 (by omega) (by omega) (by have := h.2; omega) (by omega)
  simpa using hr

def bx (n : Nat) : Bs := ⟨⟨#[]⟩, none, 0, 0, 0, (some ⟨n, 0, none⟩), 1, 1, none, 0, 0, (some ⟨n + 1, 0, none⟩), smT, 2, none, 0, 0, (some ⟨n + 1 + 1 + 1, 0, none⟩), [sr0, sr1], 2, (some ⟨n + 1 + 1, 0, none⟩), smS, 1, none, 0, 0, 0⟩
def bxC (n : Nat) : Array Value := #[.string ⟨#[]⟩, .slice none 0 0, .int .i64 0, .slice (some ⟨n, 0, none⟩) 1 1, .slice none 0 0, .slice (some ⟨n + 1, 0, none⟩) 2 2, .slice none 0 0, .slice (some ⟨n + 1 + 1 + 1, 0, none⟩) 2 2, .slice (some ⟨n + 1 + 1, 0, none⟩) 1 1, .slice none 0 0, .int .i64 0]
structure SmAt (w : World) (n : Nat) : Prop where
  box : w.heap[n + 1 + 1 + 1 + 1]? = some (.cells (bxC n) 31 (0, 0))
  b : BsAt w w.heap.size (bx n)
theorem SmAt.lt {w : World} {n : Nat} (h : SmAt w n) : n + 1 + 1 + 1 + 1 < w.heap.size := (Array.getElem?_eq_some_iff.1 h.box).1
theorem SmAt.below {w w' : World} {n : Nat} (h : SmAt w n) (hb : Below w.heap.size w w') : SmAt w' n := ⟨(hb.block _ h.lt).trans h.box, (h.b.below hb).more hb.size⟩
theorem SmAt.cells {w : World} {n : Nat} (h : SmAt w n) : w.cell? ⟨n + 1 + 1 + 1 + 1, 0, none⟩ = some (.string ⟨#[]⟩) ∧ w.cell? ⟨n + 1 + 1 + 1 + 1, 1, none⟩ = some (.slice none 0 0) ∧ w.cell? ⟨n + 1 + 1 + 1 + 1, 2, none⟩ = some (.int .i64 0) ∧ w.cell? ⟨n + 1 + 1 + 1 + 1, 3, none⟩ = some (.slice (some ⟨n, 0, none⟩) 1 1) ∧ w.cell? ⟨n + 1 + 1 + 1 + 1, 4, none⟩ = some (.slice none 0 0) ∧ w.cell? ⟨n + 1 + 1 + 1 + 1, 5, none⟩ = some (.slice (some ⟨n + 1, 0, none⟩) 2 2) ∧ w.cell? ⟨n + 1 + 1 + 1 + 1, 6, none⟩ = some (.slice none 0 0) ∧ w.cell? ⟨n + 1 + 1 + 1 + 1, 7, none⟩ = some (.slice (some ⟨n + 1 + 1 + 1, 0, none⟩) 2 2) ∧ w.cell? ⟨n + 1 + 1 + 1 + 1, 8, none⟩ = some (.slice (some ⟨n + 1 + 1, 0, none⟩) 1 1) ∧ w.cell? ⟨n + 1 + 1 + 1 + 1, 9, none⟩ = some (.slice none 0 0) ∧ w.cell? ⟨n + 1 + 1 + 1 + 1, 10, none⟩ = some (.int .i64 0) := ⟨(cell_blk h.box _).trans rfl, (cell_blk h.box _).trans rfl, (cell_blk h.box _).trans rfl, (cell_blk h.box _).trans rfl, (cell_blk h.box _).trans rfl, (cell_blk h.box _).trans rfl, (cell_blk h.box _).trans rfl, (cell_blk h.box _).trans rfl, (cell_blk h.box _).trans rfl, (cell_blk h.box _).trans rfl, (cell_blk h.box _).trans rfl⟩
theorem sm_begin (w : World) (M : Array Value) : SmAt (((((w.alloc (.cells M 124)).alloc (.cells #[.string ⟨#[]⟩, .int .i64 0, .int .i64 0, .int .i64 0, .int .i64 9, .int .i64 0, .int .i64 0, .string ⟨#[]⟩, .int .i64 0, .int .i64 0, .int .i64 0, .int .i64 5, .int .i64 0, .int .i64 0] 47)).alloc (.cells #[.string ⟨#[]⟩, .int .i64 20] 49)).alloc (.cells #[.string ⟨#[]⟩, .int .i64 0, .int .i64 1, .int .i64 2, .int .i64 3, .int .i64 0, .int .i64 10, .string ⟨#[]⟩, .int .i64 1, .int .i64 2, .int .i64 1, .int .i64 4, .int .i64 (-1), .int .i64 0] 56)).alloc (.cells #[.string ⟨#[]⟩, .slice none 0 0, .int .i64 0, .slice (some ⟨w.heap.size, 0, none⟩) 1 1, .slice none 0 0, .slice (some ⟨w.heap.size + 1, 0, none⟩) 2 2, .slice none 0 0, .slice (some ⟨w.heap.size + 1 + 1 + 1, 0, none⟩) 2 2, .slice (some ⟨w.heap.size + 1 + 1, 0, none⟩) 1 1, .slice none 0 0, .int .i64 0] 31)) w.heap.size ∧ Below w.heap.size w (((((w.alloc (.cells M 124)).alloc (.cells #[.string ⟨#[]⟩, .int .i64 0, .int .i64 0, .int .i64 0, .int .i64 9, .int .i64 0, .int .i64 0, .string ⟨#[]⟩, .int .i64 0, .int .i64 0, .int .i64 0, .int .i64 5, .int .i64 0, .int .i64 0] 47)).alloc (.cells #[.string ⟨#[]⟩, .int .i64 20] 49)).alloc (.cells #[.string ⟨#[]⟩, .int .i64 0, .int .i64 1, .int .i64 2, .int .i64 3, .int .i64 0, .int .i64 10, .string ⟨#[]⟩, .int .i64 1, .int .i64 2, .int .i64 1, .int .i64 4, .int .i64 (-1), .int .i64 0] 56)).alloc (.cells #[.string ⟨#[]⟩, .slice none 0 0, .int .i64 0, .slice (some ⟨w.heap.size, 0, none⟩) 1 1, .slice none 0 0, .slice (some ⟨w.heap.size + 1, 0, none⟩) 2 2, .slice none 0 0, .slice (some ⟨w.heap.size + 1 + 1 + 1, 0, none⟩) 2 2, .slice (some ⟨w.heap.size + 1 + 1, 0, none⟩) 1 1, .slice none 0 0, .int .i64 0] 31)) := by
  refine ⟨⟨?_, ?_, ?_, ?_⟩, ?_⟩
  · have := new_heap ((((w.alloc (.cells M 124)).alloc (.cells #[.string ⟨#[]⟩, .int .i64 0, .int .i64 0, .int .i64 0, .int .i64 9, .int .i64 0, .int .i64 0, .string ⟨#[]⟩, .int .i64 0, .int .i64 0, .int .i64 0, .int .i64 5, .int .i64 0, .int .i64 0] 47)).alloc (.cells #[.string ⟨#[]⟩, .int .i64 20] 49)).alloc (.cells #[.string ⟨#[]⟩, .int .i64 0, .int .i64 1, .int .i64 2, .int .i64 3, .int .i64 0, .int .i64 10, .string ⟨#[]⟩, .int .i64 1, .int .i64 2, .int .i64 1, .int .i64 4, .int .i64 (-1), .int .i64 0] 56)) (.cells #[.string ⟨#[]⟩, .slice none 0 0, .int .i64 0, .slice (some ⟨w.heap.size, 0, none⟩) 1 1, .slice none 0 0, .slice (some ⟨w.heap.size + 1, 0, none⟩) 2 2, .slice none 0 0, .slice (some ⟨w.heap.size + 1 + 1 + 1, 0, none⟩) 2 2, .slice (some ⟨w.heap.size + 1 + 1, 0, none⟩) 1 1, .slice none 0 0, .int .i64 0] 31)
    simp only [World.size_alloc] at this; exact this
  · exact rows_of_block (A := smT) townC_len (b := w.heap.size + 1) (by
      have := old_heap (.cells #[.string ⟨#[]⟩, .slice none 0 0, .int .i64 0, .slice (some ⟨w.heap.size, 0, none⟩) 1 1, .slice none 0 0, .slice (some ⟨w.heap.size + 1, 0, none⟩) 2 2, .slice none 0 0, .slice (some ⟨w.heap.size + 1 + 1 + 1, 0, none⟩) 2 2, .slice (some ⟨w.heap.size + 1 + 1, 0, none⟩) 1 1, .slice none 0 0, .int .i64 0] 31) (old_heap (.cells #[.string ⟨#[]⟩, .int .i64 0, .int .i64 1, .int .i64 2, .int .i64 3, .int .i64 0, .int .i64 10, .string ⟨#[]⟩, .int .i64 1, .int .i64 2, .int .i64 1, .int .i64 4, .int .i64 (-1), .int .i64 0] 56) (old_heap (.cells #[.string ⟨#[]⟩, .int .i64 20] 49) (new_heap (w.alloc (.cells M 124)) (.cells #[.string ⟨#[]⟩, .int .i64 0, .int .i64 0, .int .i64 0, .int .i64 9, .int .i64 0, .int .i64 0, .string ⟨#[]⟩, .int .i64 0, .int .i64 0, .int .i64 0, .int .i64 5, .int .i64 0, .int .i64 0] 47))))
      simp only [World.size_alloc] at this; exact this) (by simp only [World.size_alloc]; omega)
  · exact rows_of_block (A := [sr0, sr1]) roadC_len (b := w.heap.size + 1 + 1 + 1) (by
      have := old_heap (.cells #[.string ⟨#[]⟩, .slice none 0 0, .int .i64 0, .slice (some ⟨w.heap.size, 0, none⟩) 1 1, .slice none 0 0, .slice (some ⟨w.heap.size + 1, 0, none⟩) 2 2, .slice none 0 0, .slice (some ⟨w.heap.size + 1 + 1 + 1, 0, none⟩) 2 2, .slice (some ⟨w.heap.size + 1 + 1, 0, none⟩) 1 1, .slice none 0 0, .int .i64 0] 31) (new_heap (((w.alloc (.cells M 124)).alloc (.cells #[.string ⟨#[]⟩, .int .i64 0, .int .i64 0, .int .i64 0, .int .i64 9, .int .i64 0, .int .i64 0, .string ⟨#[]⟩, .int .i64 0, .int .i64 0, .int .i64 0, .int .i64 5, .int .i64 0, .int .i64 0] 47)).alloc (.cells #[.string ⟨#[]⟩, .int .i64 20] 49)) (.cells #[.string ⟨#[]⟩, .int .i64 0, .int .i64 1, .int .i64 2, .int .i64 3, .int .i64 0, .int .i64 10, .string ⟨#[]⟩, .int .i64 1, .int .i64 2, .int .i64 1, .int .i64 4, .int .i64 (-1), .int .i64 0] 56))
      simp only [World.size_alloc] at this; exact this) (by simp only [World.size_alloc]; omega)
  · exact rows_of_block (A := smS) shC_len (b := w.heap.size + 1 + 1) (by
      have := old_heap (.cells #[.string ⟨#[]⟩, .slice none 0 0, .int .i64 0, .slice (some ⟨w.heap.size, 0, none⟩) 1 1, .slice none 0 0, .slice (some ⟨w.heap.size + 1, 0, none⟩) 2 2, .slice none 0 0, .slice (some ⟨w.heap.size + 1 + 1 + 1, 0, none⟩) 2 2, .slice (some ⟨w.heap.size + 1 + 1, 0, none⟩) 1 1, .slice none 0 0, .int .i64 0] 31) (old_heap (.cells #[.string ⟨#[]⟩, .int .i64 0, .int .i64 1, .int .i64 2, .int .i64 3, .int .i64 0, .int .i64 10, .string ⟨#[]⟩, .int .i64 1, .int .i64 2, .int .i64 1, .int .i64 4, .int .i64 (-1), .int .i64 0] 56) (new_heap ((w.alloc (.cells M 124)).alloc (.cells #[.string ⟨#[]⟩, .int .i64 0, .int .i64 0, .int .i64 0, .int .i64 9, .int .i64 0, .int .i64 0, .string ⟨#[]⟩, .int .i64 0, .int .i64 0, .int .i64 0, .int .i64 5, .int .i64 0, .int .i64 0] 47)) (.cells #[.string ⟨#[]⟩, .int .i64 20] 49)))
      simp only [World.size_alloc] at this; exact this) (by simp only [World.size_alloc]; omega)
  · exact (((((Below.refl _ _).alloc (Nat.le_refl _) _).alloc (by simp only [World.size_alloc]; omega) _).alloc (by simp only [World.size_alloc]; omega) _).alloc (by simp only [World.size_alloc]; omega) _).alloc (by simp only [World.size_alloc]; omega) _
section
variable {n : Nat}
theorem sm_ways (L : List Vl) (C : Option Addr) (c : Nat) (m : List Nat) (ok : Bool) (wx : World) (h : SmAt wx n) (hV : VlsAt wx wx.heap.size C L) (hL : L.length ≤ 1000) (hm : WayR 3 1 2 (vsOf L) [sr0, sr1] 0 m ok) :
    Calls Try.prog 9 #[.agg #[.string ⟨#[]⟩, .slice none 0 0, .int .i64 0, .slice (some ⟨n, 0, none⟩) 1 1, .slice none 0 0, .slice (some ⟨n + 1, 0, none⟩) 2 2, .slice none 0 0, .slice (some ⟨n + 1 + 1 + 1, 0, none⟩) 2 2, .slice (some ⟨n + 1 + 1, 0, none⟩) 1 1, .slice none 0 0, .int .i64 0], .int .i64 0, .slice C L.length c] wx (fun e w' => ∃ D d, e = .returned (.tuple #[.slice D m.length d, .bool ok]) ∧ IntsAt w' w'.heap.size D (intsOf m) ∧ Below wx.heap.size wx w') :=
  (ways_yes (bx n) C c L 0 wx h.b hV (show (2 : Nat) ≤ 50 by decide) (show (1 : Nat) ≤ 50 by decide) (show (2 : Nat) ≤ 100 by decide) hL (show (1 : Nat) ≤ 9223372036854775807 by decide) (show (0 : Nat) < 2 by decide)).mono fun e w' ⟨l, ok', D, d, hw, he, hI, hb⟩ => by
    have hw : WayR 3 1 2 (vsOf L) [sr0, sr1] 0 l ok' := hw
    obtain ⟨rfl, rfl⟩ := hw.uniq hm
    exact ⟨D, d, he, hI, hb⟩
theorem sm_room (V : List Int) (C : Option Addr) (c : Nat) (wx : World) (h : SmAt wx n) (hV : IntsAt wx wx.heap.size C V) (hVl : V.length ≤ 9223372036854775807) :
    Calls Try.prog 11 #[.agg #[.string ⟨#[]⟩, .slice none 0 0, .int .i64 0, .slice (some ⟨n, 0, none⟩) 1 1, .slice none 0 0, .slice (some ⟨n + 1, 0, none⟩) 2 2, .slice none 0 0, .slice (some ⟨n + 1 + 1 + 1, 0, none⟩) 2 2, .slice (some ⟨n + 1 + 1, 0, none⟩) 1 1, .slice none 0 0, .int .i64 0], .slice C V.length c, .int .i64 1] wx (fun e w' => ∃ D d, e = .returned (.tuple #[.int .i64 4, .slice D 2 d]) ∧ IntsAt w' w'.heap.size D [0, 1] ∧ Below wx.heap.size wx w') :=
  (room_any (bx n) C c V 1 wx h.b hV hVl (show (2 : Nat) ≤ 50 by decide) (show (1 : Nat) ≤ 50 by decide) (show (2 : Nat) ≤ 100 by decide) (show (1 : Nat) ≤ 9223372036854775807 by decide)).mono fun e w' ⟨f, v, Q, D, d, he, hm, _, _, hI, hb⟩ => by
    have hm : MaxOf 5 (net 3 smT [sr0, sr1] smS (opB 3 1 V) 1) 3 4 f v Q := hm
    obtain ⟨rfl, e2⟩ := small_max (by unfold opB; rw [sr1_us, sr1_pass]; rfl) hm
    have e2 : townsOf (bx n).T.length (FL.sideL ((bx n).N + 2) Q) = [0, 1] := e2
    rw [e2] at he hI
    exact ⟨D, d, he, hI, hb⟩
theorem sm_open (r : Int) (V : List Int) (C : Option Addr) (c : Nat) (x : Bool) (wx : World) (h : SmAt wx n) (hV : IntsAt wx wx.heap.size C V) (hVl : V.length ≤ 9223372036854775807) (hx : openB 3 1 [sr0, sr1] r V = x) :
    Calls Try.prog 14 #[.agg #[.string ⟨#[]⟩, .slice none 0 0, .int .i64 0, .slice (some ⟨n, 0, none⟩) 1 1, .slice none 0 0, .slice (some ⟨n + 1, 0, none⟩) 2 2, .slice none 0 0, .slice (some ⟨n + 1 + 1 + 1, 0, none⟩) 2 2, .slice (some ⟨n + 1 + 1, 0, none⟩) 1 1, .slice none 0 0, .int .i64 0], .int .i64 r, .slice C V.length c] wx (fun e w' => e = .returned (.bool x) ∧ Below wx.heap.size wx w') :=
  (open_any (bx n) r C c V wx h.b.r hV hVl ⟨show (2 : Nat) ≤ 1000000 by decide, show (2 : Nat) ≤ 1000000 by decide, show (1 : Nat) ≤ 1000000 by decide, show (1 : Nat) ≤ 9223372036854775807 by decide⟩).mono fun e w' ⟨he, hb⟩ => ⟨by rw [he]; congr 2, hb⟩
theorem sm_o1 : openB 3 1 [sr0, sr1] 0 [10] = true := by
  have := openB_at (N := 3) (P := 1) (V := [10]) (R := [sr0, sr1]) (k := 0) (x := sr0) rfl
  rw [sr0_us, sr0_pass] at this; exact this
theorem sm_o2 : openB 3 1 [sr0, sr1] 0 [11] = false := by
  have := openB_at (N := 3) (P := 1) (V := [11]) (R := [sr0, sr1]) (k := 0) (x := sr0) rfl
  rw [sr0_us, sr0_pass] at this; exact this
theorem sm_o3 : openB 3 1 [sr0, sr1] 1 [] = true := by
  have := openB_at (N := 3) (P := 1) (V := []) (R := [sr0, sr1]) (k := 1) (x := sr1) rfl
  rw [sr1_us, sr1_pass] at this; exact this
theorem sm_o4 : openB 3 1 [sr0, sr1] 2 [] = false := openB_out (k := 2) (by decide)
theorem ints_new (w : World) (l : List Int) : IntsAt (w.alloc (.cells (l.map (Value.int .i64)).toArray 3)) (w.alloc (.cells (l.map (Value.int .i64)).toArray 3)).heap.size (some ⟨w.heap.size, 0, none⟩) l := ints_of_block (new_heap w _) (by simp only [World.size_alloc]; omega)
theorem vols3 (w : World) : VlsAt ((((w.alloc (.cells #[.int .i64 20] 3)).alloc (.cells #[.int .i64 5] 3)).alloc (.cells #[.int .i64 5] 3)).alloc (.cells #[.slice (some ⟨w.heap.size, 0, none⟩) 1 1, .slice (some ⟨w.heap.size + 1, 0, none⟩) 1 1, .slice (some ⟨w.heap.size + 1 + 1, 0, none⟩) 1 1] 29)) ((((w.alloc (.cells #[.int .i64 20] 3)).alloc (.cells #[.int .i64 5] 3)).alloc (.cells #[.int .i64 5] 3)).alloc (.cells #[.slice (some ⟨w.heap.size, 0, none⟩) 1 1, .slice (some ⟨w.heap.size + 1, 0, none⟩) 1 1, .slice (some ⟨w.heap.size + 1 + 1, 0, none⟩) 1 1] 29)).heap.size (some ⟨w.heap.size + 1 + 1 + 1, 0, none⟩) [⟨some ⟨w.heap.size, 0, none⟩, [20], 1⟩, ⟨some ⟨w.heap.size + 1, 0, none⟩, [5], 1⟩, ⟨some ⟨w.heap.size + 1 + 1, 0, none⟩, [5], 1⟩] := by
  have i1 := ints_new w [20]
  have i2 := ints_new (w.alloc (.cells #[.int .i64 20] 3)) [5]
  have i3 := ints_new ((w.alloc (.cells #[.int .i64 20] 3)).alloc (.cells #[.int .i64 5] 3)) [5]
  have up : ∀ {u : World} {C : Option Addr} {l : List Int} (x : Obj), IntsAt u u.heap.size C l → IntsAt (u.alloc x) (u.alloc x).heap.size C l := fun x h => ints_more (ints_below h ((Below.refl _ _).alloc (Nat.le_refl _) _)) (by simp only [World.size_alloc]; omega)
  refine ⟨rows_of_block vlC_len (b := w.heap.size + 1 + 1 + 1) (by
    have := new_heap (((w.alloc (.cells #[.int .i64 20] 3)).alloc (.cells #[.int .i64 5] 3)).alloc (.cells #[.int .i64 5] 3)) (.cells #[.slice (some ⟨w.heap.size, 0, none⟩) 1 1, .slice (some ⟨w.heap.size + 1, 0, none⟩) 1 1, .slice (some ⟨w.heap.size + 1 + 1, 0, none⟩) 1 1] 29)
    simp only [World.size_alloc] at this; exact this) (by simp only [World.size_alloc]; omega), fun x hx => ?_⟩
  simp only [List.mem_cons, List.not_mem_nil, or_false] at hx
  rcases hx with rfl | rfl | rfl
  · exact ⟨up _ (up _ (up _ i1)), by simp⟩
  · exact ⟨by have := up (.cells #[.slice (some ⟨w.heap.size, 0, none⟩) 1 1, .slice (some ⟨w.heap.size + 1, 0, none⟩) 1 1, .slice (some ⟨w.heap.size + 1 + 1, 0, none⟩) 1 1] 29) (up (.cells #[.int .i64 5] 3) i2); simp only [World.size_alloc] at this ⊢; exact this, by simp⟩
  · exact ⟨by have := up (.cells #[.slice (some ⟨w.heap.size, 0, none⟩) 1 1, .slice (some ⟨w.heap.size + 1, 0, none⟩) 1 1, .slice (some ⟨w.heap.size + 1 + 1, 0, none⟩) 1 1] 29) i3; simp only [World.size_alloc] at this ⊢; exact this, by simp⟩
theorem vols2 (w : World) : VlsAt (((w.alloc (.cells #[.int .i64 5] 3)).alloc (.cells #[.int .i64 20] 3)).alloc (.cells #[.slice (some ⟨w.heap.size, 0, none⟩) 1 1, .slice (some ⟨w.heap.size + 1, 0, none⟩) 1 1] 29)) (((w.alloc (.cells #[.int .i64 5] 3)).alloc (.cells #[.int .i64 20] 3)).alloc (.cells #[.slice (some ⟨w.heap.size, 0, none⟩) 1 1, .slice (some ⟨w.heap.size + 1, 0, none⟩) 1 1] 29)).heap.size (some ⟨w.heap.size + 1 + 1, 0, none⟩) [⟨some ⟨w.heap.size, 0, none⟩, [5], 1⟩, ⟨some ⟨w.heap.size + 1, 0, none⟩, [20], 1⟩] := by
  have i1 := ints_new w [5]
  have i2 := ints_new (w.alloc (.cells #[.int .i64 5] 3)) [20]
  have up : ∀ {u : World} {C : Option Addr} {l : List Int} (x : Obj), IntsAt u u.heap.size C l → IntsAt (u.alloc x) (u.alloc x).heap.size C l := fun x h => ints_more (ints_below h ((Below.refl _ _).alloc (Nat.le_refl _) _)) (by simp only [World.size_alloc]; omega)
  refine ⟨rows_of_block vlC_len (b := w.heap.size + 1 + 1) (by
    have := new_heap ((w.alloc (.cells #[.int .i64 5] 3)).alloc (.cells #[.int .i64 20] 3)) (.cells #[.slice (some ⟨w.heap.size, 0, none⟩) 1 1, .slice (some ⟨w.heap.size + 1, 0, none⟩) 1 1] 29)
    simp only [World.size_alloc] at this; exact this) (by simp only [World.size_alloc]; omega), fun x hx => ?_⟩
  simp only [List.mem_cons, List.not_mem_nil, or_false] at hx
  rcases hx with rfl | rfl
  · exact ⟨up _ (up _ i1), by simp⟩
  · exact ⟨by have := up (.cells #[.slice (some ⟨w.heap.size, 0, none⟩) 1 1, .slice (some ⟨w.heap.size + 1, 0, none⟩) 1 1] 29) i2; simp only [World.size_alloc] at this ⊢; exact this, by simp⟩
theorem vls_nil (w : World) : VlsAt w w.heap.size none [] := ⟨fun h => absurd h (by decide), fun x hx => absurd hx List.not_mem_nil⟩
theorem ints_nil (w : World) : IntsAt w w.heap.size none [] := fun h => absurd h (by decide)
theorem below_vol3 (w : World) : Below w.heap.size w ((((w.alloc (.cells #[.int .i64 20] 3)).alloc (.cells #[.int .i64 5] 3)).alloc (.cells #[.int .i64 5] 3)).alloc (.cells #[.slice (some ⟨w.heap.size, 0, none⟩) 1 1, .slice (some ⟨w.heap.size + 1, 0, none⟩) 1 1, .slice (some ⟨w.heap.size + 1 + 1, 0, none⟩) 1 1] 29)) := ((((Below.refl _ _).alloc (Nat.le_refl _) _).alloc (by simp only [World.size_alloc]; omega) _).alloc (by simp only [World.size_alloc]; omega) _).alloc (by simp only [World.size_alloc]; omega) _
theorem below_vol2 (w : World) : Below w.heap.size w (((w.alloc (.cells #[.int .i64 5] 3)).alloc (.cells #[.int .i64 20] 3)).alloc (.cells #[.slice (some ⟨w.heap.size, 0, none⟩) 1 1, .slice (some ⟨w.heap.size + 1, 0, none⟩) 1 1] 29)) := (((Below.refl _ _).alloc (Nat.le_refl _) _).alloc (by simp only [World.size_alloc]; omega) _).alloc (by simp only [World.size_alloc]; omega) _
theorem below_one (w : World) (o : Obj) : Below w.heap.size w (w.alloc o) := (Below.refl _ _).alloc (Nat.le_refl _) _
def WayI (len : Nat) (m : List Int) (ok : Bool) (w : World) (e : Ending) (w' : World) : Prop := ∃ D d, e = .returned (.tuple #[.slice D len d, .bool ok]) ∧ IntsAt w' w'.heap.size D m ∧ Below w.heap.size w w'
theorem go3 {w a b : World} (h : Below w.heap.size w a) (k : Below a.heap.size a b) : Below w.heap.size w b := h.trans (k.mono h.size)
theorem sm_k1 (w : World) (h : SmAt w n) : Calls Try.prog 9 #[.agg #[.string ⟨#[]⟩, .slice none 0 0, .int .i64 0, .slice (some ⟨n, 0, none⟩) 1 1, .slice none 0 0, .slice (some ⟨n + 1, 0, none⟩) 2 2, .slice none 0 0, .slice (some ⟨n + 1 + 1 + 1, 0, none⟩) 2 2, .slice (some ⟨n + 1 + 1, 0, none⟩) 1 1, .slice none 0 0, .int .i64 0], .int .i64 0, .slice none 0 0] w (WayI 3 [0, 1, 2] true w) :=
  sm_ways [] none 0 [0, 1, 2] true w h (vls_nil w) (by simp) (small_way small_leave0)
theorem sm_k2 (w : World) (h : SmAt w n) : Calls Try.prog 9 #[.agg #[.string ⟨#[]⟩, .slice none 0 0, .int .i64 0, .slice (some ⟨n, 0, none⟩) 1 1, .slice none 0 0, .slice (some ⟨n + 1, 0, none⟩) 2 2, .slice none 0 0, .slice (some ⟨n + 1 + 1 + 1, 0, none⟩) 2 2, .slice (some ⟨n + 1 + 1, 0, none⟩) 1 1, .slice none 0 0, .int .i64 0], .int .i64 0, .slice (some ⟨w.heap.size + 1 + 1 + 1, 0, none⟩) 3 3] ((((w.alloc (.cells #[.int .i64 20] 3)).alloc (.cells #[.int .i64 5] 3)).alloc (.cells #[.int .i64 5] 3)).alloc (.cells #[.slice (some ⟨w.heap.size, 0, none⟩) 1 1, .slice (some ⟨w.heap.size + 1, 0, none⟩) 1 1, .slice (some ⟨w.heap.size + 1 + 1, 0, none⟩) 1 1] 29)) (WayI 3 [0, 1, 2] true w) :=
  (sm_ways _ _ 3 [0, 1, 2] true _ (h.below (below_vol3 w)) (vols3 w) (by simp) (small_way small_leave1)).mono fun e w' ⟨D, d, he, hI, hb⟩ => ⟨D, d, he, hI, go3 (below_vol3 w) hb⟩
theorem sm_k3 (w : World) (h : SmAt w n) : Calls Try.prog 9 #[.agg #[.string ⟨#[]⟩, .slice none 0 0, .int .i64 0, .slice (some ⟨n, 0, none⟩) 1 1, .slice none 0 0, .slice (some ⟨n + 1, 0, none⟩) 2 2, .slice none 0 0, .slice (some ⟨n + 1 + 1 + 1, 0, none⟩) 2 2, .slice (some ⟨n + 1 + 1, 0, none⟩) 1 1, .slice none 0 0, .int .i64 0], .int .i64 0, .slice (some ⟨w.heap.size + 1 + 1, 0, none⟩) 2 2] (((w.alloc (.cells #[.int .i64 5] 3)).alloc (.cells #[.int .i64 20] 3)).alloc (.cells #[.slice (some ⟨w.heap.size, 0, none⟩) 1 1, .slice (some ⟨w.heap.size + 1, 0, none⟩) 1 1] 29)) (WayI 0 [] false w) :=
  (sm_ways _ _ 2 [] false _ (h.below (below_vol2 w)) (vols2 w) (by simp) (small_none small_leave2)).mono fun e w' ⟨D, d, he, hI, hb⟩ => ⟨D, d, he, hI, go3 (below_vol2 w) hb⟩
def RoomI (w : World) (e : Ending) (w' : World) : Prop := ∃ D d, e = .returned (.tuple #[.int .i64 4, .slice D 2 d]) ∧ IntsAt w' w'.heap.size D [0, 1] ∧ Below w.heap.size w w'
theorem sm_k4 (w : World) (x : Int) (h : SmAt w n) : Calls Try.prog 11 #[.agg #[.string ⟨#[]⟩, .slice none 0 0, .int .i64 0, .slice (some ⟨n, 0, none⟩) 1 1, .slice none 0 0, .slice (some ⟨n + 1, 0, none⟩) 2 2, .slice none 0 0, .slice (some ⟨n + 1 + 1 + 1, 0, none⟩) 2 2, .slice (some ⟨n + 1 + 1, 0, none⟩) 1 1, .slice none 0 0, .int .i64 0], .slice (some ⟨w.heap.size, 0, none⟩) 1 1, .int .i64 1] (w.alloc (.cells #[.int .i64 x] 3)) (RoomI w) :=
  (sm_room [x] _ 1 _ (h.below (below_one w _)) (ints_new w [x]) (by simp)).mono fun e w' ⟨D, d, he, hI, hb⟩ => ⟨D, d, he, hI, go3 (below_one w _) hb⟩
def BoI (x : Bool) (w : World) (e : Ending) (w' : World) : Prop := e = .returned (.bool x) ∧ Below w.heap.size w w'
theorem sm_k5 (w : World) (v : Int) (x : Bool) (hx : openB 3 1 [sr0, sr1] 0 [v] = x) (h : SmAt w n) : Calls Try.prog 14 #[.agg #[.string ⟨#[]⟩, .slice none 0 0, .int .i64 0, .slice (some ⟨n, 0, none⟩) 1 1, .slice none 0 0, .slice (some ⟨n + 1, 0, none⟩) 2 2, .slice none 0 0, .slice (some ⟨n + 1 + 1 + 1, 0, none⟩) 2 2, .slice (some ⟨n + 1 + 1, 0, none⟩) 1 1, .slice none 0 0, .int .i64 0], .int .i64 0, .slice (some ⟨w.heap.size, 0, none⟩) 1 1] (w.alloc (.cells #[.int .i64 v] 3)) (BoI x w) :=
  (sm_open 0 [v] _ 1 x _ (h.below (below_one w _)) (ints_new w [v]) (by simp) hx).mono fun e w' ⟨he, hb⟩ => ⟨he, go3 (below_one w _) hb⟩
theorem sm_k6 (w : World) (r : Int) (x : Bool) (hx : openB 3 1 [sr0, sr1] r [] = x) (h : SmAt w n) : Calls Try.prog 14 #[.agg #[.string ⟨#[]⟩, .slice none 0 0, .int .i64 0, .slice (some ⟨n, 0, none⟩) 1 1, .slice none 0 0, .slice (some ⟨n + 1, 0, none⟩) 2 2, .slice none 0 0, .slice (some ⟨n + 1 + 1 + 1, 0, none⟩) 2 2, .slice (some ⟨n + 1 + 1, 0, none⟩) 1 1, .slice none 0 0, .int .i64 0], .int .i64 r, .slice none 0 0] w (BoI x w) :=
  sm_open r [] none 0 x w h (ints_nil w) (by decide) hx
theorem sm_k7 (w : World) (D : Option Addr) (d : Nat) (hI : IntsAt w w.heap.size D [0, 1, 2]) : Calls Try.prog 13 #[.slice D 3 d, .slice (some ⟨w.heap.size, 0, none⟩) 3 3] (w.alloc (.cells #[.int .i64 0, .int .i64 1, .int .i64 2] 3)) (BoI true w) :=
  (ints_eq D _ d 3 3 [0, 1, 2] _ (ints_more (ints_below hI (below_one w _)) (by simp only [World.size_alloc]; omega)) (ints_new w [0, 1, 2]) (by decide) rfl).mono fun e w' ⟨he, hb⟩ => ⟨he, go3 (below_one w _) hb⟩
theorem sm_k8 (w : World) (D : Option Addr) (d : Nat) (hI : IntsAt w w.heap.size D [0, 1]) : Calls Try.prog 13 #[.slice D 2 d, .slice (some ⟨w.heap.size, 0, none⟩) 2 2] (w.alloc (.cells #[.int .i64 0, .int .i64 1] 3)) (BoI true w) :=
  (ints_eq D _ d 2 2 [0, 1] _ (ints_more (ints_below hI (below_one w _)) (by simp only [World.size_alloc]; omega)) (ints_new w [0, 1]) (by decide) rfl).mono fun e w' ⟨he, hb⟩ => ⟨he, go3 (below_one w _) hb⟩
end
set_option maxRecDepth 100000 in
set_option maxHeartbeats 8000000 in
theorem small_any (w : World) : Calls Try.prog 7 #[] w (fun e w' => e = .returned (.bool true) ∧ Below w.heap.size w w') := by
  obtain ⟨M, mk⟩ := make_place
  go_enter Try.func7, Try.ntmps7
  go_wp2_with fail
  clear mk
  obtain ⟨hS0, hB0⟩ := sm_begin w M
  generalize (((((w.alloc (.cells M 124)).alloc (.cells #[.string ⟨#[]⟩, .int .i64 0, .int .i64 0, .int .i64 0, .int .i64 9, .int .i64 0, .int .i64 0, .string ⟨#[]⟩, .int .i64 0, .int .i64 0, .int .i64 0, .int .i64 5, .int .i64 0, .int .i64 0] 47)).alloc (.cells #[.string ⟨#[]⟩, .int .i64 20] 49)).alloc (.cells #[.string ⟨#[]⟩, .int .i64 0, .int .i64 1, .int .i64 2, .int .i64 3, .int .i64 0, .int .i64 10, .string ⟨#[]⟩, .int .i64 1, .int .i64 2, .int .i64 1, .int .i64 4, .int .i64 (-1), .int .i64 0] 56)).alloc (.cells #[.string ⟨#[]⟩, .slice none 0 0, .int .i64 0, .slice (some ⟨w.heap.size, 0, none⟩) 1 1, .slice none 0 0, .slice (some ⟨w.heap.size + 1, 0, none⟩) 2 2, .slice none 0 0, .slice (some ⟨w.heap.size + 1 + 1 + 1, 0, none⟩) 2 2, .slice (some ⟨w.heap.size + 1 + 1, 0, none⟩) 1 1, .slice none 0 0, .int .i64 0] 31)) = w0 at hS0 hB0 ⊢
  go_at_call 9
  (with_reducible refine (sm_k1 w0 hS0).mono ?_)
  rintro e1 w1 ⟨D1, d1, rfl, hI1, hb1⟩
  have hS1 := hS0.below hb1
  have hB1 := go3 hB0 hb1
  have x1 := hS1.cells
  obtain ⟨x0, x1, x2, x3, x4, x5, x6, x7, x8, x9, x10⟩ := x1
  clear hS0 hB0 hb1
  go_wp2_with fail
  clear x0 x1 x2 x3 x4 x5 x6 x7 x8 x9 x10
  go_at_call 9
  (with_reducible refine (sm_k2 w1 hS1).mono ?_)
  rintro e2 w2 ⟨D2, d2, rfl, hI2, hb2⟩
  have hS2 := hS1.below hb2
  have hB2 := go3 hB1 hb2
  replace hI1 := ints_more (ints_below hI1 hb2) hb2.size
  have x2 := hS2.cells
  obtain ⟨x0, x1, x2, x3, x4, x5, x6, x7, x8, x9, x10⟩ := x2
  clear hS1 hB1 hb2
  go_wp2_with fail
  clear x0 x1 x2 x3 x4 x5 x6 x7 x8 x9 x10
  go_at_call 9
  (with_reducible refine (sm_k3 w2 hS2).mono ?_)
  rintro e3 w3 ⟨D3, d3, rfl, hI3, hb3⟩
  have hS3 := hS2.below hb3
  have hB3 := go3 hB2 hb3
  replace hI1 := ints_more (ints_below hI1 hb3) hb3.size
  replace hI2 := ints_more (ints_below hI2 hb3) hb3.size
  have x3 := hS3.cells
  obtain ⟨x0, x1, x2, x3, x4, x5, x6, x7, x8, x9, x10⟩ := x3
  clear hS2 hB2 hb3
  go_wp2_with fail
  clear x0 x1 x2 x3 x4 x5 x6 x7 x8 x9 x10
  go_at_call 11
  (with_reducible refine (sm_k4 w3 10 hS3).mono ?_)
  rintro e4 w4 ⟨D4, d4, rfl, hI4, hb4⟩
  have hS4 := hS3.below hb4
  have hB4 := go3 hB3 hb4
  replace hI1 := ints_more (ints_below hI1 hb4) hb4.size
  replace hI2 := ints_more (ints_below hI2 hb4) hb4.size
  have x4 := hS4.cells
  obtain ⟨x0, x1, x2, x3, x4, x5, x6, x7, x8, x9, x10⟩ := x4
  clear hS3 hB3 hb4
  go_wp2_with fail
  clear x0 x1 x2 x3 x4 x5 x6 x7 x8 x9 x10
  go_at_call 11
  (with_reducible refine (sm_k4 w4 11 hS4).mono ?_)
  rintro e5 w5 ⟨D5, d5, rfl, hI5, hb5⟩
  have hS5 := hS4.below hb5
  have hB5 := go3 hB4 hb5
  replace hI1 := ints_more (ints_below hI1 hb5) hb5.size
  replace hI2 := ints_more (ints_below hI2 hb5) hb5.size
  replace hI4 := ints_more (ints_below hI4 hb5) hb5.size
  have x5 := hS5.cells
  obtain ⟨x0, x1, x2, x3, x4, x5, x6, x7, x8, x9, x10⟩ := x5
  clear hS4 hB4 hb5
  go_wp2_with fail
  clear x0 x1 x2 x3 x4 x5 x6 x7 x8 x9 x10
  go_at_call 13
  (with_reducible refine (sm_k7 w5 D1 d1 hI1).mono ?_)
  rintro e6 w6 ⟨rfl, hb6⟩
  have hS6 := hS5.below hb6
  have hB6 := go3 hB5 hb6
  replace hI1 := ints_more (ints_below hI1 hb6) hb6.size
  replace hI2 := ints_more (ints_below hI2 hb6) hb6.size
  replace hI4 := ints_more (ints_below hI4 hb6) hb6.size
  replace hI5 := ints_more (ints_below hI5 hb6) hb6.size
  have x6 := hS6.cells
  obtain ⟨x0, x1, x2, x3, x4, x5, x6, x7, x8, x9, x10⟩ := x6
  clear hS5 hB5 hb6
  go_wp2_with fail
  clear x0 x1 x2 x3 x4 x5 x6 x7 x8 x9 x10
  go_at_call 13
  (with_reducible refine (sm_k7 w6 D2 d2 hI2).mono ?_)
  rintro e7 w7 ⟨rfl, hb7⟩
  have hS7 := hS6.below hb7
  have hB7 := go3 hB6 hb7
  replace hI1 := ints_more (ints_below hI1 hb7) hb7.size
  replace hI2 := ints_more (ints_below hI2 hb7) hb7.size
  replace hI4 := ints_more (ints_below hI4 hb7) hb7.size
  replace hI5 := ints_more (ints_below hI5 hb7) hb7.size
  have x7 := hS7.cells
  obtain ⟨x0, x1, x2, x3, x4, x5, x6, x7, x8, x9, x10⟩ := x7
  clear hS6 hB6 hb7
  go_wp2_with fail
  clear x0 x1 x2 x3 x4 x5 x6 x7 x8 x9 x10
  go_at_call 14
  (with_reducible refine (sm_k5 w7 10 true sm_o1 hS7).mono ?_)
  rintro e8 w8 ⟨rfl, hb8⟩
  have hS8 := hS7.below hb8
  have hB8 := go3 hB7 hb8
  replace hI1 := ints_more (ints_below hI1 hb8) hb8.size
  replace hI2 := ints_more (ints_below hI2 hb8) hb8.size
  replace hI4 := ints_more (ints_below hI4 hb8) hb8.size
  replace hI5 := ints_more (ints_below hI5 hb8) hb8.size
  have x8 := hS8.cells
  obtain ⟨x0, x1, x2, x3, x4, x5, x6, x7, x8, x9, x10⟩ := x8
  clear hS7 hB7 hb8
  go_wp2_with fail
  clear x0 x1 x2 x3 x4 x5 x6 x7 x8 x9 x10
  go_at_call 14
  (with_reducible refine (sm_k5 w8 11 false sm_o2 hS8).mono ?_)
  rintro e9 w9 ⟨rfl, hb9⟩
  have hS9 := hS8.below hb9
  have hB9 := go3 hB8 hb9
  replace hI1 := ints_more (ints_below hI1 hb9) hb9.size
  replace hI2 := ints_more (ints_below hI2 hb9) hb9.size
  replace hI4 := ints_more (ints_below hI4 hb9) hb9.size
  replace hI5 := ints_more (ints_below hI5 hb9) hb9.size
  have x9 := hS9.cells
  obtain ⟨x0, x1, x2, x3, x4, x5, x6, x7, x8, x9, x10⟩ := x9
  clear hS8 hB8 hb9
  go_wp2_with fail
  clear x0 x1 x2 x3 x4 x5 x6 x7 x8 x9 x10
  go_at_call 14
  (with_reducible refine (sm_k6 w9 1 true sm_o3 hS9).mono ?_)
  rintro e10 w10 ⟨rfl, hb10⟩
  have hS10 := hS9.below hb10
  have hB10 := go3 hB9 hb10
  replace hI1 := ints_more (ints_below hI1 hb10) hb10.size
  replace hI2 := ints_more (ints_below hI2 hb10) hb10.size
  replace hI4 := ints_more (ints_below hI4 hb10) hb10.size
  replace hI5 := ints_more (ints_below hI5 hb10) hb10.size
  have x10 := hS10.cells
  obtain ⟨x0, x1, x2, x3, x4, x5, x6, x7, x8, x9, x10⟩ := x10
  clear hS9 hB9 hb10
  go_wp2_with fail
  clear x0 x1 x2 x3 x4 x5 x6 x7 x8 x9 x10
  go_at_call 14
  (with_reducible refine (sm_k6 w10 2 false sm_o4 hS10).mono ?_)
  rintro e11 w11 ⟨rfl, hb11⟩
  have hS11 := hS10.below hb11
  have hB11 := go3 hB10 hb11
  replace hI1 := ints_more (ints_below hI1 hb11) hb11.size
  replace hI2 := ints_more (ints_below hI2 hb11) hb11.size
  replace hI4 := ints_more (ints_below hI4 hb11) hb11.size
  replace hI5 := ints_more (ints_below hI5 hb11) hb11.size
  have x11 := hS11.cells
  obtain ⟨x0, x1, x2, x3, x4, x5, x6, x7, x8, x9, x10⟩ := x11
  clear hS10 hB10 hb11
  go_wp2_with fail
  clear x0 x1 x2 x3 x4 x5 x6 x7 x8 x9 x10
  go_at_call 13
  (with_reducible refine (sm_k8 w11 D4 d4 hI4).mono ?_)
  rintro e12 w12 ⟨rfl, hb12⟩
  have hS12 := hS11.below hb12
  have hB12 := go3 hB11 hb12
  replace hI1 := ints_more (ints_below hI1 hb12) hb12.size
  replace hI2 := ints_more (ints_below hI2 hb12) hb12.size
  replace hI4 := ints_more (ints_below hI4 hb12) hb12.size
  replace hI5 := ints_more (ints_below hI5 hb12) hb12.size
  have x12 := hS12.cells
  obtain ⟨x0, x1, x2, x3, x4, x5, x6, x7, x8, x9, x10⟩ := x12
  clear hS11 hB11 hb12
  go_wp2_with fail
  clear x0 x1 x2 x3 x4 x5 x6 x7 x8 x9 x10
  go_at_call 13
  (with_reducible refine (sm_k8 w12 D5 d5 hI5).mono ?_)
  rintro e13 w13 ⟨rfl, hb13⟩
  have hS13 := hS12.below hb13
  have hB13 := go3 hB12 hb13
  replace hI1 := ints_more (ints_below hI1 hb13) hb13.size
  replace hI2 := ints_more (ints_below hI2 hb13) hb13.size
  replace hI4 := ints_more (ints_below hI4 hb13) hb13.size
  replace hI5 := ints_more (ints_below hI5 hb13) hb13.size
  have x13 := hS13.cells
  obtain ⟨x0, x1, x2, x3, x4, x5, x6, x7, x8, x9, x10⟩ := x13
  clear hS12 hB12 hb13
  go_wp2_with fail
  clear x0 x1 x2 x3 x4 x5 x6 x7 x8 x9 x10
  go_ret
  exact ⟨rfl, hB13⟩
end Go.Proofs.Ytphebdmdbnpokaa
