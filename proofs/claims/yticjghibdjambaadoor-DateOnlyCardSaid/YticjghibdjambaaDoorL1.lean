/- The law's own example (small) returns true. -/
import Derived.Test.YticjghibdjambaaDoorW12
namespace Go.Proofs.YticjghibdjambaaDoor
open Go.RowKit

set_option maxHeartbeats 400000 in
theorem exists_yes (m d : Int) (w : World) (hM : Months w) (h1 : 1 ≤ m) (h2 : m ≤ 12) (h3 : 1 ≤ d) (h4 : d ≤ mon (m.toNat - 1)) :
    Calls Tryd.prog 28 #[.int .i64 m, .int .i64 d] w fun e w' => e = .returned (.bool true) ∧ w = w' := by
  have hc := hM (m.toNat - 1) (by omega)
  generalize mon (m.toNat - 1) = x at *
  clear hM
  go_enter Tryd.func28, Tryd.ntmps28
  go_wp2
  go_ret
  exact ⟨rfl, rfl⟩

/-- The one call of In: is the 29th of February in a season from November to March? -/
theorem in_at (w : World) (hM : Months w) :
    Calls Tryd.prog 19 #[.agg #[.int .i64 2000, .int .i64 2, .int .i64 29, .int .i64 5], .int .i64 1101, .int .i64 331] w fun e w' => e = .returned (.bool true) ∧ Below w.heap.size w w' := by
  have hM2 := hM.alloc (.cells #[.int .i64 2000, .int .i64 2, .int .i64 29, .int .i64 5] 23)
  go_enter Tryd.func19, Tryd.ntmps19
  go_wp2_with (go_at_call 28; refine (exists_yes _ _ _ hM2 (by decide) (by decide) (by decide) (by decide)).mono ?_; rintro e w' ⟨rfl, rfl⟩)
  go_ret
  exact ⟨rfl, (Below.refl _ _).alloc (Nat.le_refl _) _⟩

theorem vld_feb : DM.vld 2000 2 29 ∧ DM.num 2000 2 29 = 59 := by unfold DM.vld; decide
theorem vld_jan : DM.vld 2000 1 2 ∧ DM.num 2000 1 2 = 1 := by unfold DM.vld; decide
theorem of_feb (w : World) (hM : Months w) : Calls Tryd.prog 9 #[.int .i64 1421] w fun e w' =>
    e = .returned (.tuple #[.agg #[.int .i64 2000, .int .i64 2, .int .i64 29, .int .i64 5], .bool true]) ∧ Below w.heap.size w w' := by
  refine (of_yes 1421 w (by omega) (by omega) hM).mono ?_
  rintro e w' ⟨y, m, d, rfl, hv, hn, _, _, hb⟩
  obtain ⟨rfl, rfl, rfl⟩ := DM.num_inj hv vld_feb.1 (by rw [hn, vld_feb.2]; rfl)
  exact ⟨rfl, hb⟩
def sText : ByteArray := ⟨#[50, 48, 48, 48, 45, 48, 49, 45, 48, 50, 32, 48, 53, 104]⟩
theorem text_jan (w : World) (hT : Tabs w) : Calls Tryd.prog 17 #[.int .i64 29] w fun e w' =>
    e = .returned (.string ⟨#[50, 48, 48, 48, 45, 48, 49, 45, 48, 50, 32, 48, 53, 104]⟩) ∧ Below w.heap.size w w' := by
  refine (text_yes 29 w (by omega) (by omega) hT).mono ?_
  rintro e w' ⟨y, m, d, rfl, hv, hn, _, _, hb⟩
  obtain ⟨rfl, rfl, rfl⟩ := DM.num_inj hv vld_jan.1 (by rw [hn, vld_jan.2]; rfl)
  exact ⟨rfl, hb⟩
theorem hour_2001 (w : World) (hM : Months w) : Calls Tryd.prog 11 #[.agg #[.int .i64 2001, .int .i64 1, .int .i64 1, .int .i64 0]] w fun e w' =>
    e = .returned (.tuple #[.int .i64 8784, .bool true]) ∧ Below w.heap.size w w' := by
  have := hour_any 2001 1 1 0 w hM
  rw [show hourB 2001 1 1 0 = true by decide, show hourN 2001 1 1 0 = 8784 by decide] at this
  exact this
theorem parse_jan (w : World) (hT : Tabs w) : Calls Tryd.prog 15 #[.string ⟨#[50, 48, 48, 48, 45, 48, 49, 45, 48, 50, 32, 48, 53, 104]⟩] w fun e w' =>
    e = .returned (.tuple #[.int .i64 29, .bool true]) ∧ Below w.heap.size w w' := by
  have := parse_any ⟨#[50, 48, 48, 48, 45, 48, 49, 45, 48, 50, 32, 48, 53, 104]⟩ w hT (by decide)
  have e1 : parseB [50, 48, 48, 48, 45, 48, 49, 45, 48, 50, 32, 48, 53, 104] = true := by decide
  have e2 : parseN [50, 48, 48, 48, 45, 48, 49, 45, 48, 50, 32, 48, 53, 104] = 29 := by decide
  rw [show (⟨#[50, 48, 48, 48, 45, 48, 49, 45, 48, 50, 32, 48, 53, 104]⟩ : ByteArray).data.toList = [50, 48, 48, 48, 45, 48, 49, 45, 48, 50, 32, 48, 53, 104] from rfl, e1, e2] at this
  exact this
theorem day_25 (w : World) : Calls Tryd.prog 13 #[.int .i64 25] w fun e w' => e = .returned (.int .i64 1) ∧ w = w' := by
  have := day_any 25 w
  rw [show dayF 25 = 1 by decide] at this
  exact this

/-- A date in memory. -/
def At4 (w : World) (g : Nat) (a b c d : Value) : Prop :=
  w.cell? ⟨g, 0, none⟩ = some a ∧ w.cell? ⟨g, 1, none⟩ = some b ∧ w.cell? ⟨g, 2, none⟩ = some c ∧ w.cell? ⟨g, 3, none⟩ = some d
theorem At4.new (w : World) (a b c d : Value) (t : TypeId) : At4 (w.alloc (.cells #[a, b, c, d] t)) w.heap.size a b c d := by
  refine ⟨?_, ?_, ?_, ?_⟩ <;> rw [World.cell?_alloc_at _ _ _ _ rfl] <;> rfl
theorem At4.later {w w' : World} {g : Nat} {a b c d : Value} (h : At4 w g a b c d) (hb : Below w.heap.size w w') : At4 w' g a b c d :=
  ⟨cell_later hb h.1, cell_later hb h.2.1, cell_later hb h.2.2.1, cell_later hb h.2.2.2⟩

set_option maxHeartbeats 1000000 in
theorem small_any (w : World) (hT : Tabs w) : Calls Tryd.prog 8 #[] w fun e w' => e = .returned (.bool true) ∧ Below w.heap.size w w' := by
  go_enter Tryd.func8, Tryd.ntmps8
  go_wp2_with fail
  refine (of_feb _ hT.mon).mono ?_
  rintro e w1 ⟨rfl, hb1⟩
  have hT1 : Tabs w1 := hT.below hT.size hb1 hb1.size
  have hT1' := hT1.alloc (.cells #[.int .i64 2000, .int .i64 2, .int .i64 29, .int .i64 5] 23)
  have hq1 : Below w.heap.size w (w1.alloc (.cells #[.int .i64 2000, .int .i64 2, .int .i64 29, .int .i64 5] 23)) := hb1.alloc hb1.size _
  have A1 := At4.new w1 (.int .i64 2000) (.int .i64 2) (.int .i64 29) (.int .i64 5) 23
  go_wp2_with fail
  refine (hour_2001 _ hT1'.mon).mono ?_
  rintro e w2 ⟨rfl, hb2⟩
  have hT2 : Tabs w2 := hT1'.below hT1'.size hb2 hb2.size
  have A2 := A1.later hb2
  have hq2 := hq1.trans (hb2.mono hq1.size)
  clear A1 hb2 hT1'
  go_wp2_with fail
  refine (parse_jan _ hT2).mono ?_
  rintro e w3 ⟨rfl, hb3⟩
  have hT3 : Tabs w3 := hT2.below hT2.size hb3 hb3.size
  have A3 := A2.later hb3
  have hq3 := hq2.trans (hb3.mono hq2.size)
  have A3' := A3
  obtain ⟨a0, a1, a2, a3⟩ := A3
  clear A2 hb3 hT2
  go_wp2_with fail
  refine (text_jan _ hT3).mono ?_
  rintro e w4 ⟨rfl, hb4⟩
  have hT4 : Tabs w4 := hT3.below hT3.size hb4 hb4.size
  have A4 := A3'.later hb4
  have hq4 := hq3.trans (hb4.mono hq3.size)
  clear a0 a1 a2 a3 A3' hb4 hT3
  obtain ⟨a0, a1, a2, a3⟩ := A4
  go_wp2_with fail
  refine (in_at _ hT4.mon).mono ?_
  rintro e w5 ⟨rfl, hb5⟩
  have hq5 := hq4.trans (hb5.mono hq4.size)
  clear hb5
  go_wp2_with fail
  refine (day_25 _).mono ?_
  rintro e w6 ⟨rfl, rfl⟩
  go_wp2
  go_ret
  exact ⟨rfl, hq5⟩
end Go.Proofs.YticjghibdjambaaDoor
