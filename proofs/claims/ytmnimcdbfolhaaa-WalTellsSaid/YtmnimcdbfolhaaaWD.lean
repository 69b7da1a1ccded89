/- Calls on the disk beside a log. -/
import Derived.Test.YtmnimcdbfolhaaaSA
set_option linter.unusedSimpArgs false
set_option linter.unusedVariables false
namespace Go.Proofs.Ytmnimcdbfolhaaa
open Go.RowKit DK
section
variable {w0 w w' : World} {b lb : Nat} {f : Int} {P : Nat → Prop} {n : Nat} {s s' : St} {R : List Bts}
theorem Wal.disk (h : Wal w0 b lb f P n w s R) : ∃ Q, (∀ k, P k → Q k) ∧ HasP w0 b Q n w s ∧ ∀ {n' : Nat} {w' : World} {s' : St}, HasP w0 b Q n' w' s' → Keep Q w w' → Wal w0 b lb f P n' w' s' R ∧ Keep P w w' := by
  obtain ⟨o, c, hL, hP, H⟩ := h.at_
  exact ⟨_, fun _ q => .inl q, H, fun H2 k => ⟨⟨⟨o, c, hL.keep k (.inr (.inl rfl)) (fun g e => .inr (.inr e)), hP, H2⟩, h.base⟩, k.sub fun _ q => .inl q⟩⟩
theorem wcrash_any (h : Wal w0 b lb f P n w s R) {A : Option Addr} {c : Nat} {keep : List Int} (hA : Apart w0 b w A keep) (hkl : keep.length ≤ 9223372036854775807) (hn : n ≤ 999999) (hs : DK.crash s keep = s') :
    Calls Try.prog 23 #[dp b, .slice A keep.length c] w fun e w' => e = .returned (.tuple #[]) ∧ Wal w0 b lb f P n w' s' R ∧ Keep P w w' := by
  obtain ⟨Q, _, H, back⟩ := h.disk
  exact (H.crash hA hkl hn hs).mono fun e w' ⟨he, h2, k⟩ => ⟨he, back h2 k⟩
theorem wstart_any (h : Wal w0 b lb f P n w s R) (hs : DK.start s = s') : Calls Try.prog 24 #[dp b] w fun e w' => e = .returned (.tuple #[]) ∧ Wal w0 b lb f P n w' s' R ∧ Keep P w w' := by
  obtain ⟨Q, _, H, back⟩ := h.disk
  exact (H.start hs).mono fun e w' ⟨he, h2, k⟩ => ⟨he, back h2 k⟩
theorem wlose_any (h : Wal w0 b lb f P n w s R) (k : Int) (hk : k ≤ 9223372036854775807) (hs : DK.lose s k = s') : Calls Try.prog 59 #[dp b, .int .i64 k] w fun e w' => e = .returned (.tuple #[]) ∧ Wal w0 b lb f P n w' s' R ∧ Keep P w w' := by
  obtain ⟨Q, _, H, back⟩ := h.disk
  exact (H.lose k hk hs).mono fun e w' ⟨he, h2, k⟩ => ⟨he, back h2 k⟩
theorem warm_any (h : Wal w0 b lb f P n w s R) {A : Option Addr} {c : Nat} {keep : List Int} (k : Int) (hk : k ≤ 9223372036854775807) (hA : Apart w0 b w A keep) (hkl : keep.length ≤ 1000000000000) (hs : DK.arm s k keep = s') :
    Calls Try.prog 61 #[dp b, .int .i64 k, .slice A keep.length c] w fun e w' => e = .returned (.tuple #[]) ∧ Wal w0 b lb f P n w' s' R ∧ Keep P w w' := by
  obtain ⟨Q, _, H, back⟩ := h.disk
  exact (H.arm k hk hA hkl hs).mono fun e w' ⟨he, h2, k⟩ => ⟨he, back h2 k⟩
/-- A second Open on the disk of a log that stays. -/
theorem Wal.open_ (h : Wal w0 b lb f P n w s R) (f2 : Int) (hn : n ≤ 999999) {s' : St} {R2 : List Bts} (ho : openS s f2 = (0, s')) (hR : rowsOf (s.data f2.toNat) = R2) :
    Calls Try.prog 17 #[dp b, .int .i64 f2] w fun e w' => ∃ lb2, e = .returned (.tuple #[lp lb2, .int .i64 0]) ∧ w.heap.size ≤ lb2 ∧ Keep P w w' ∧ ∃ Q, (∀ k, P k → Q k) ∧ Wal w0 b lb2 f2 Q n w' s' R2 ∧
      (∀ {n' : Nat} {w2 : World} {s2 : St} {R3 : List Bts}, Wal w0 b lb2 f2 Q n' w2 s2 R3 → Keep Q w' w2 → Wal w0 b lb f P n' w2 s2 R ∧ Keep P w' w2) ∧ Wal w0 b lb f P n w' s' R := by
  obtain ⟨o, c, hL, hP, H⟩ := h.at_
  refine (open_yes H f2 hn ho hR).mono ?_
  rintro e w' ⟨lb2, rfl, h2, k2, hl⟩
  have hL2 := hL.keep k2 (.inr (.inl rfl)) (fun g e => .inr (.inr e))
  exact ⟨lb2, rfl, hl, k2.sub fun _ q => .inl q, _, fun _ q => .inl q, h2, fun H2 k => ⟨⟨⟨o, c, hL2.keep k (.inr (.inl rfl)) (fun g e => .inr (.inr e)), hP, H2.has⟩, h.base⟩, k.sub fun _ q => .inl q⟩, ⟨⟨o, c, hL2, hP, h2.has⟩, h.base⟩⟩
end
end Go.Proofs.Ytmnimcdbfolhaaa
