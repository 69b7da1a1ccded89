/- Joined of: S4. -/
import Derived.Test.YthoigjkelinjhaaG02
import Derived.Test.YthoigjkelinjhaaG01
import Derived.Test.YthoigjkelinjhaaG9
import Derived.Test.YthoigjkelinjhaaG12
import Derived.Test.YthoigjkelinjhaaG13
/- The walk of small (chapter 40); Right of a basin is some answer. -/
set_option linter.unusedSimpArgs false
set_option linter.unusedVariables false
namespace Go.Proofs.Ythoigjkelinjhaa
open Go.RowKit CM
attribute [local go_sem] alloc_drewN setCell_drewN shape_drewN

theorem right_ok : RightOk := fun X pl w hX hnm h1 h2 h3 h4 => RT.right16_of RT.named_any RT.peopled_any X pl w hX hnm h1 h2 h3 h4
theorem rights_one {w : World} {b B : Nat} {r : Rt} {t : TypeId} (h : RT.Box w b r.cells.toArray t) (hB : b < B) : RightsAt w B (some ⟨b, 0, none⟩) [r] := fun _ => ⟨b, 0, rfl, hB, fun k q hk j v hj => by
  have hk0 : k = 0 := by have := (List.getElem?_eq_some_iff.1 hk).1; simp at this; exact this
  subst hk0
  obtain rfl : r = q := by simpa using hk
  rw [show 0 + (0 * 9 + j) = j by omega]
  exact h.cell (by simpa using hj)⟩
theorem pairs_two {w : World} {b B : Nat} {x1 x2 y1 y2 : Int} {t : TypeId} (h : RT.Box w b #[.int .i64 x1, .int .i64 x2, .int .i64 y1, .int .i64 y2] t) (hB : b < B) : PairsAt w B (some ⟨b, 0, none⟩) [(x1, x2), (y1, y2)] := fun _ => ⟨b, 0, rfl, hB, fun j hj => by
  have hj : j < 4 := hj
  rw [Nat.zero_add]
  match j, hj with
  | 0, _ => exact h.cell rfl
  | 1, _ => exact h.cell rfl
  | 2, _ => exact h.cell rfl
  | 3, _ => exact h.cell rfl⟩
theorem ents_two {w : World} {B : Nat} {C : Option Addr} {x y : LD.Et} (h : RowAt etC 7 w B C [x, y]) : ∃ b off, C = some ⟨b, off, none⟩ ∧ b < B ∧ (∀ j v, (etC x)[j]? = some v → w.cell? ⟨b, off + j, none⟩ = some v) ∧ ∀ j v, (etC y)[j]? = some v → w.cell? ⟨b, off + 7 + j, none⟩ = some v := by
  obtain ⟨b, off, e, hb, hc⟩ := h (by simp)
  refine ⟨b, off, e, hb, fun j v hj => ?_, fun j v hj => ?_⟩
  · have := hc 0 x rfl j v hj
    rwa [show off + (0 * 7 + j) = off + j by omega] at this
  · have := hc 1 y rfl j v hj
    rwa [show off + (1 * 7 + j) = off + 7 + j by omega] at this
def smR : Rt := ⟨7, 1, 0, 2, 0, 0, 0, 0, 0⟩
theorem small_list : grantsL 3 80 (shL [smR] [(7, 50), (8, 9)]) = [⟨3, 80, 1, 2, 50, 0, 7⟩, ⟨3, 80, -1, 2, -50, 0, 7⟩] := by kernel_rfl
theorem small_nil : grantsL 3 80 (shL [smR] []) = [] := by kernel_rfl
set_option maxRecDepth 100000 in
set_option maxHeartbeats 4000000 in
theorem small4_any (w : World) : Calls Try.prog 7 #[] w (BoolIs true w) := by
  have K1 : Hid (∀ (wx : World) (D : Option Addr) (_ : RightsAt wx wx.heap.size (some ⟨w.heap.size, 0, none⟩) [smR]) (_ : PairsAt wx wx.heap.size D [(7, 50), (8, 9)]), Calls Try.prog 13 #[.int .i64 3, .int .i64 80, .slice (some ⟨w.heap.size, 0, none⟩) 1 1, .slice D 2 2] wx (EntsIs [⟨3, 80, 1, 2, 50, 0, 7⟩, ⟨3, 80, -1, 2, -50, 0, 7⟩] wx)) := fun wx D hR hG => by
    have := grants_any 3 80 [smR] [(7, 50), (8, 9)] (some ⟨w.heap.size, 0, none⟩) 1 D 2 wx hR hG (Nat.le_refl _) (by simp) (by simp) (fun x hx => by simp at hx; rcases hx with rfl | rfl <;> (unfold In64; simp))
    rw [small_list] at this
    exact this
  have K2 : Hid (∀ (wx : World) (_ : RightsAt wx wx.heap.size (some ⟨w.heap.size, 0, none⟩) [smR]), Calls Try.prog 13 #[.int .i64 3, .int .i64 80, .slice (some ⟨w.heap.size, 0, none⟩) 1 1, .slice none 0 0] wx (EntsIs [] wx)) := fun wx hR => by
    have := grants_any 3 80 [smR] [] (some ⟨w.heap.size, 0, none⟩) 1 none 0 wx hR (fun h => absurd h (by simp)) (Nat.le_refl _) (by simp) (by simp) (fun x hx => by cases hx)
    rw [small_nil] at this
    exact this
  have hb0 : Below w.heap.size w ((w.alloc (.cells #[.int .i64 7, .int .i64 1, .int .i64 0, .int .i64 2, .int .i64 0, .int .i64 0, .int .i64 0, .int .i64 0, .int .i64 0] 49)).alloc (.cells #[.int .i64 7, .int .i64 50, .int .i64 8, .int .i64 9] 61)) := ((Below.refl _ _).alloc (Nat.le_refl _) _).alloc (by simp) _
  have hR1 : RT.Box ((w.alloc (.cells #[.int .i64 7, .int .i64 1, .int .i64 0, .int .i64 2, .int .i64 0, .int .i64 0, .int .i64 0, .int .i64 0, .int .i64 0] 49)).alloc (.cells #[.int .i64 7, .int .i64 50, .int .i64 8, .int .i64 9] 61)) w.heap.size smR.cells.toArray 49 := (RT.Box.new w _ _).below (B := w.heap.size + 1) ((Below.refl _ _).alloc (by simp) _) (by omega)
  have hG1 : PairsAt ((w.alloc (.cells #[.int .i64 7, .int .i64 1, .int .i64 0, .int .i64 2, .int .i64 0, .int .i64 0, .int .i64 0, .int .i64 0, .int .i64 0] 49)).alloc (.cells #[.int .i64 7, .int .i64 50, .int .i64 8, .int .i64 9] 61)) (((w.alloc (.cells #[.int .i64 7, .int .i64 1, .int .i64 0, .int .i64 2, .int .i64 0, .int .i64 0, .int .i64 0, .int .i64 0, .int .i64 0] 49)).alloc (.cells #[.int .i64 7, .int .i64 50, .int .i64 8, .int .i64 9] 61))).heap.size (some ⟨w.heap.size + 1, 0, none⟩) [(7, 50), (8, 9)] := pairs_two (t := 61) (by have h := RT.Box.new (w.alloc (.cells #[.int .i64 7, .int .i64 1, .int .i64 0, .int .i64 2, .int .i64 0, .int .i64 0, .int .i64 0, .int .i64 0, .int .i64 0] 49)) #[.int .i64 7, .int .i64 50, .int .i64 8, .int .i64 9] 61; simpa using h) (by simp)
  have HR1 := Lib.hid hR1
  have HG1 := Lib.hid hG1
  clear hR1 hG1
  go_enter Try.func7, Try.ntmps7
  go_upto_region 3 with (first | (go_at_call 13; ((with_reducible refine (K1.out _ _ (rights_one HR1.out (by simp; omega)) HG1.out).mono ?_); rintro e1 w1 ⟨C1, c1, rfl, hE1, hb1⟩)) | fail)
  have hbw1 : Below w.heap.size w w1 := hb0.trans (hb1.mono (by simp; omega))
  have hR2 : RT.Box w1 w.heap.size smR.cells.toArray 49 := HR1.out.below hb1 (by simp; omega)
  have hz1 : w.heap.size < w1.heap.size := hR2.lt
  have HR2 := Lib.hid hR2
  clear hR2 HR1 HG1 hb1 hb0 K1
  go_upto_region 4 with (first | (go_at_call 13; ((with_reducible refine (K2.out _ (rights_one HR2.out hz1)).mono ?_); rintro e2 w2 ⟨C2, c2, rfl, _, hb2⟩)) | fail)
  obtain ⟨b, off, ec, hb, hx, hy⟩ := ents_two (hE1.below hb2)
  subst ec
  have hbB := hbw1.trans (hb2.mono (by omega))
  have hbw : b < w2.heap.size := by have := hb2.size; omega
  have hx0 : w2.cell? ⟨b, off, none⟩ = some (.int .i64 3) := hx 0 _ rfl
  have hx1 : w2.cell? ⟨b, off + 1, none⟩ = some (.int .i64 80) := hx 1 _ rfl
  have hx2 : w2.cell? ⟨b, off + 2, none⟩ = some (.int .i64 1) := hx 2 _ rfl
  have hx3 : w2.cell? ⟨b, off + 3, none⟩ = some (.int .i64 2) := hx 3 _ rfl
  have hx4 : w2.cell? ⟨b, off + 4, none⟩ = some (.int .i64 50) := hx 4 _ rfl
  have hx5 : w2.cell? ⟨b, off + 5, none⟩ = some (.int .i64 0) := hx 5 _ rfl
  have hx6 : w2.cell? ⟨b, off + 6, none⟩ = some (.int .i64 7) := hx 6 _ rfl
  have hy0 : w2.cell? ⟨b, off + 7, none⟩ = some (.int .i64 3) := hy 0 _ rfl
  have hy1 : w2.cell? ⟨b, off + 7 + 1, none⟩ = some (.int .i64 80) := hy 1 _ rfl
  have hy2 : w2.cell? ⟨b, off + 7 + 2, none⟩ = some (.int .i64 (-1)) := hy 2 _ rfl
  have hy3 : w2.cell? ⟨b, off + 7 + 3, none⟩ = some (.int .i64 2) := hy 3 _ rfl
  have hy4 : w2.cell? ⟨b, off + 7 + 4, none⟩ = some (.int .i64 (-50)) := hy 4 _ rfl
  have hy5 : w2.cell? ⟨b, off + 7 + 5, none⟩ = some (.int .i64 0) := hy 5 _ rfl
  have hy6 : w2.cell? ⟨b, off + 7 + 6, none⟩ = some (.int .i64 7) := hy 6 _ rfl
  clear hx hy hE1 hb2 hbw1
  go_wp2_with fail
  go_ret
  exact ⟨rfl, hbB⟩
end Go.Proofs.Ythoigjkelinjhaa

