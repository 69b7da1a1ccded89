/- Booked ledgers and their lines: what the walks of the laws need. -/
import Derived.Deep.Cut
import Derived.Test.YtokhapchagffkaaL1
import Derived.Test.YtokhapchagffkaaPL
set_option linter.unusedSimpArgs false
set_option linter.unusedVariables false
namespace Go.Proofs.Ytokhapchagffkaa
open Go.RowKit LG

theorem booked_led (ps : List (List Et)) : Led (bookedR ps) := by
  have key : ∀ (ps : List (List Et)) (l : List Et), Led l → Led (ps.foldl bookStep l) := by
    intro ps
    induction ps with
    | nil => exact fun l h => h
    | cons p ps ih =>
      intro l h
      rw [List.foldl_cons]
      refine ih _ ?_
      unfold bookStep
      split
      · rename_i h0
        obtain ⟨h1, _, _, h2⟩ := postR_zero h0
        rw [h2]
        exact .step h h1
      · exact h
  exact key ps [] .nil
theorem lines_stab (l : List Et) (o fr un k : Int) : ST.Stab ltDay (l.filter (lineB o fr un k)) (linesR l o fr un k) := ST.insSort_stab ltDay swoDay _
theorem lines_mem {l : List Et} {o fr un k : Int} {e : Et} (h : e ∈ linesR l o fr un k) : lineB o fr un k e = true ∧ e ∈ l := by
  have := (lines_stab l o fr un k).perm.mem_iff.1 h
  rw [List.mem_filter] at this
  exact ⟨this.2, this.1⟩
theorem lines_asc {l : List Et} {o fr un k : Int} {i j : Nat} {x y : Et} (hx : (linesR l o fr un k)[i]? = some x) (hy : (linesR l o fr un k)[j]? = some y) (hij : i < j) : x.day ≤ y.day := by
  have ha := (lines_stab l o fr un k).asc
  obtain ⟨h1, e1⟩ := List.getElem?_eq_some_iff.1 hx
  obtain ⟨h2, e2⟩ := List.getElem?_eq_some_iff.1 hy
  have := List.pairwise_iff_getElem.1 ha i j h1 h2 hij
  rw [e1, e2] at this
  unfold ltDay at this
  simp at this
  omega
theorem lines_len {l : List Et} {o fr un k : Int} : (linesR l o fr un k).length ≤ l.length := by
  unfold linesR; rw [insSort_len]; exact List.length_filter_le _ _
theorem lines_sumF (f : Et → Bool) (l : List Et) (o fr un k : Int) : sumF f (linesR l o fr un k) = sumF (fun e => lineB o fr un k e && f e) l := by
  rw [← sumF_filter]
  unfold sumF
  exact litS_perm ((lines_stab l o fr un k).perm.filter f)
theorem EntsAt.cell_ {w : World} {B b off : Nat} {A : List Et} (h : EntsAt w B (some ⟨b, off, none⟩) A) {k : Nat} {r : Et} (hk : A[k]? = some r) : b < B ∧
    w.cell? ⟨b, off + k * 7, none⟩ = some (.int .i64 r.day) ∧ w.cell? ⟨b, off + k * 7 + 1, none⟩ = some (.int .i64 r.known) ∧ w.cell? ⟨b, off + k * 7 + 2, none⟩ = some (.int .i64 r.owner) ∧
    w.cell? ⟨b, off + k * 7 + 3, none⟩ = some (.int .i64 r.place) ∧ w.cell? ⟨b, off + k * 7 + 4, none⟩ = some (.int .i64 r.litres) ∧ w.cell? ⟨b, off + k * 7 + 5, none⟩ = some (.int .i64 r.why) ∧
    w.cell? ⟨b, off + k * 7 + 6, none⟩ = some (.int .i64 r.ref) := by
  obtain ⟨b2, off2, e, hb, g⟩ := h.at_ hk
  injection e with h1
  injection h1 with h2 h3
  subst h2 h3
  exact ⟨hb, g⟩
/-- A posting's first entry lies somewhere. -/
theorem EntsAt.head_ {w : World} {B : Nat} {C : Option Addr} {A : List Et} (h : EntsAt w B C A) (hA : A ≠ []) : ∃ b off, C = some ⟨b, off, none⟩ ∧ A[0]? = some (A.headD default) := by
  cases A with
  | nil => exact absurd rfl hA
  | cons x A =>
    obtain ⟨b, off, e, _⟩ := h (by simp)
    exact ⟨b, off, e, rfl⟩
/-- The sums of what is taken so far. -/
theorem sums_of (f : Et → Bool) (A : List Et) (h : absS A ≤ 144115188075855872) : ∃ S : Nat → Int, S 0 = 0 ∧ S A.length = sumF f A ∧ (∀ k e, A[k]? = some e → S (k + 1) = if f e then S k + e.litres else S k) ∧ (∀ k, -144115188075855872 ≤ S k ∧ S k ≤ 144115188075855872) := by
  refine ⟨fun k => sumF f (A.take k), rfl, by show sumF f (A.take A.length) = _; rw [List.take_length], fun k e he => ?_, fun k => ?_⟩
  · show sumF f (A.take (k + 1)) = _
    rw [List.take_add_one, he, sumF_append]
    show sumF f (A.take k) + sumF f [e] = if f e then sumF f (A.take k) + e.litres else sumF f (A.take k)
    rw [sumF_cons, sumF_nil]
    split <;> omega
  · have h1 := sumF_abs f (A.take k)
    have h2 := LG.absS_take A k
    exact ⟨by show _ ≤ sumF f (A.take k); omega, by show sumF f (A.take k) ≤ _; omega⟩
theorem wrap_small {a : Int} (h1 : -1152921504606846976 ≤ a) (h2 : a ≤ 1152921504606846976) : IntKind.i64.wrap a = a := by rw [IntKind.wrap_i64]; omega
theorem wrap64_small {a : Int} (h1 : -1152921504606846976 ≤ a) (h2 : a ≤ 1152921504606846976) : wrap64 a = a := by unfold wrap64; omega
end Go.Proofs.Ytokhapchagffkaa
