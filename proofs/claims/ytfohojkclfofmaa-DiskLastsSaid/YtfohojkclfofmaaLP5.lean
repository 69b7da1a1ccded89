/- The ways of one act in DiskLasts. -/
import Derived.Test.YtfohojkclfofmaaLP4
set_option linter.unusedSimpArgs false
set_option linter.unusedVariables false
namespace Go.Proofs.Ytfohojkclfofmaa
namespace DK
inductive Way (s : St) (sf : Nat → Bts) (p e : Int) (f g n : Int) (t : St) : Prop
  | flush (f' : Nat) (hf : f = f') (h8 : f' < 8) (hp : p = 2) (he : e = 0) (d : s.down = false) (d' : t.down = false) (li : LI t (upd sf f' (t.data f')))
  | cut (f' n' : Nat) (hf : f = f') (h8 : f' < 8) (hn : n = n') (hp : p = 3) (he : e = 0) (d : s.down = false) (d' : t.down = false) (hl : n' < (sf f').length) (li : LI t (upd sf f' ((sf f').take n')))
  | cutL (f' n' : Nat) (hf : f = f') (h8 : f' < 8) (hn : n = n') (hp : p = 3) (he : e = 0) (d : s.down = false) (d' : t.down = false) (hl : (sf f').length ≤ n') (li : LI t sf)
  | turn (f' g' : Nat) (hf : f = f') (h8 : f' < 8) (hg : g = g') (h9 : g' < 8) (hp : p = 4) (he : e = 0) (d : s.down = false) (d' : t.down = false) (li : LI t (upd (upd sf f' (sf g')) g' []))
  | no (hp : p ≠ 2) (h3 : p ≠ 3) (h4 : p ≠ 4) (li : LI t sf)
  | no2 (hp : p = 2) (he : e ≠ 0) (li : LI t sf)
  | no3 (hp : p = 3) (he : e ≠ 0) (li : LI t sf)
  | no4 (hp : p = 4) (he : e ≠ 0) (li : LI t sf)
theorem way_of {s : St} {sf : Nat → Bts} (h : Ok s) (hi : LI s sf) (a : PA) : Way s sf (pk a.dO) (doP s a).e a.f a.g a.n (doP s a).st := by
  have hl := doP_li h hi a
  unfold keepP at hl
  by_cases c2 : pk a.dO = 2
  · by_cases e : (doP s a).e = 0
    · rw [if_pos ⟨c2, e⟩] at hl
      have hr : doP s a = ⟨[], (DK.flush s a.f).1, (DK.flush s a.f).2⟩ := by unfold doP; rw [if_neg (by omega), if_pos c2]
      rw [hr] at e hl ⊢
      obtain ⟨hd, hn, e2⟩ := flush_yes e
      have hf := num_iff.1 hn
      exact .flush a.f.toNat (by omega) (by omega) c2 e hd (by show (DK.flush s a.f).2.down = false; rw [e2]; exact hd) hl
    · rw [if_neg (fun q => e q.2), if_neg (fun q => e q.2), if_neg (fun q => e q.2)] at hl
      exact .no2 c2 e hl
  rw [if_neg (fun q => c2 q.1)] at hl
  by_cases c3 : pk a.dO = 3
  · by_cases e : (doP s a).e = 0
    · rw [if_pos ⟨c3, e⟩] at hl
      have hr : doP s a = ⟨[], (DK.cut s a.f a.n).1, (DK.cut s a.f a.n).2⟩ := by unfold doP; rw [if_neg (by omega), if_neg c2, if_pos c3]
      rw [hr] at e hl ⊢
      obtain ⟨hd, hn, h0, _, e2⟩ := cut_yes e
      have hf := num_iff.1 hn
      have hd2 : (DK.cut s a.f a.n).2.down = false := by rw [e2]; exact hd
      rcases Nat.lt_or_ge a.n.toNat (sf a.f.toNat).length with g | g
      · exact .cut a.f.toNat a.n.toNat (by omega) (by omega) (by omega) c3 e hd hd2 g hl
      · exact .cutL a.f.toNat a.n.toNat (by omega) (by omega) (by omega) c3 e hd hd2 g (by rw [List.take_of_length_le g, upd_self] at hl; exact hl)
    · rw [if_neg (fun q => e q.2), if_neg (fun q => e q.2)] at hl
      exact .no3 c3 e hl
  rw [if_neg (fun q => c3 q.1)] at hl
  by_cases c4 : pk a.dO = 4
  · by_cases e : (doP s a).e = 0
    · rw [if_pos ⟨c4, e⟩] at hl
      have hr : doP s a = ⟨[], (DK.turn s a.f a.g).1, (DK.turn s a.f a.g).2⟩ := by unfold doP; rw [if_neg (by omega), if_neg c2, if_neg c3, if_pos c4]
      rw [hr] at e hl ⊢
      obtain ⟨hd, hn, hn2, _, _, e2⟩ := turn_yes e
      have hf := num_iff.1 hn
      have hg := num_iff.1 hn2
      exact .turn a.f.toNat a.g.toNat (by omega) (by omega) (by omega) (by omega) c4 e hd (by show (DK.turn s a.f a.g).2.down = false; rw [e2]; exact hd) hl
    · rw [if_neg (fun q => e q.2)] at hl
      exact .no4 c4 e hl
  rw [if_neg (fun q => c4 q.1)] at hl
  exact .no c2 c3 c4 hl
end DK
end Go.Proofs.Ytfohojkclfofmaa
