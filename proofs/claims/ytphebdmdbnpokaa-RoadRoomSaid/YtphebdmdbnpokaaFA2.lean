/- The walk of network.fill: a maximum flow, with the distances beside it. -/
import Derived.Test.YtphebdmdbnpokaaFA1
set_option linter.unusedSimpArgs false
set_option linter.unusedVariables false
namespace Go.Proofs.Ytphebdmdbnpokaa.FL
open Go.RowKit FM

def FillSaid (w : World) (B M n : Nat) (A : List Arc) (a : NA) (s t : Nat) (e : Ending) (w' : World) : Prop :=
  ∃ (v : Int) (L' : List Int) (D' : Int → Int), e = .returned (.int .i64 v) ∧ 0 ≤ v ∧ v ≤ 4611686018427387904 ∧ Fl A s t L' v ∧ BfsO n A L' s D' [] ∧ D' t < 0 ∧ Net w' B M n A a L' D' ∧ Keeps w.heap.size (fun k => k = a.gE ∨ k = a.gD) w w'

set_option maxHeartbeats 1000000 in
set_option maxRecDepth 10000 in
theorem fill_any {w : World} {B M n : Nat} {A : List Arc} {a : NA} {L : List Int} {D : Int → Int} (s t : Nat) (hA : inN n A) (hm : A.length ≤ 4096) (hcap : ∀ a ∈ A, 0 ≤ a.2.2 ∧ a.2.2 ≤ 1125899906842624) (hn : n ≤ 256)
    (hs : s < n) (ht : t < n) (hst : s ≠ t) (hN : Net w B M n A a L D) (hM : M ≤ w.heap.size) (hF : Fl A s t L 0) :
    Calls Try.prog 35 #[.pointer (some ⟨a.X, 0, none⟩), .int .i64 s, .int .i64 t] w (FillSaid w B M n A a s t) := by
  go_enter Try.func35, Try.ntmps35
  go_wp2_with fail
  go_loopg [7] 4611686018427387904 (fun g u wr => ∃ (v : Int) (L1 : List Int) (D1 : Int → Int), u = .int .i64 v ∧ 0 ≤ v ∧ (g : Int) + v = 4611686018427387904 ∧ Fl A s t L1 v ∧ Net wr B M n A a L1 D1 ∧ Keeps w.heap.size (fun k => k = a.gE ∨ k = a.gD) w wr)
  case atStart => exact ⟨0, L, D, rfl, Int.le_refl _, by omega, hF, hN, Keeps.refl _ _ _⟩
  case round =>
    obtain ⟨v, L1, D1, rfl, hv0, hg, hF1, hN1, hK1⟩ := hrel
    have hle := hF1.le hA (by omega) (by omega) (by omega) hm hcap
    have hMr : M ≤ wr.heap.size := Nat.le_trans hM hK1.size
    have hmeas := Lib.hid (measure_any s hN1 hMr hs hn hA hm)
    go_wp2_with (go_at_call 47; refine hmeas.out.mono ?_; rintro e1 w1 ⟨rfl, D2, hN2, hB2, hK2⟩; have hx2 := hN2.x2; obtain ⟨hd, _⟩ := hN2.dist t ht; have hdl := hB2.dist.hi t (by omega) (by omega))
    · have h0 : D2 t < 0 := by assumption
      go_ret
      exact ⟨v, L1, D2, rfl, hv0, hle, hF1, hB2, h0, hN2, hK1.trans (hK2.mono hK1.size (fun k _ h => .inr h))⟩
    · have h0 : 0 ≤ D2 t := by assumption
      have hM2 : M ≤ w1.heap.size := Nat.le_trans hMr hK2.size
      have haug := Lib.hid (augment_any s t hA hm hcap hn hs ht hst hN2 hM2 hF1 hv0 hB2 h0)
      go_wp2_with (go_at_call 48; refine haug.out.mono ?_; rintro e1 w2 ⟨got, L3, rfl, hgot, hF3, hN3, hK3⟩; have hle3 := hF3.le hA (by omega) (by omega) (by omega) hm hcap)
      go_roundg (gk - got.toNat)
      case measure => omega
      case rel => exact ⟨v + got, L3, D2, rfl, by omega, by omega, hF3, hN3, (hK1.trans (hK2.mono hK1.size (fun k _ h => .inr h))).trans (hK3.mono (Nat.le_trans hK1.size hK2.size) (fun k _ h => .inl h))⟩
end Go.Proofs.Ytphebdmdbnpokaa.FL
