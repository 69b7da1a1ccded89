/- The walk of comments. -/
import Derived.Test.YtaemahhcacolgaaLBack
namespace Go.Proofs.Ytaemahhcacolgaa
open Go.RowKit LX

/-- Is a comment open at the end? -/
def opn : Bool → List UInt8 → Bool
  | b, [] => b
  | b, c :: l => opn (!decide ((c.toNat : Int) = 10) && (b || decide ((c.toNat : Int) = 35))) l
theorem opn_mono : ∀ (l : List UInt8) (b : Bool), opn b l = false → opn false l = false
  | [], b, h => rfl
  | c :: l, b, h => by
    unfold opn at h ⊢
    cases b
    · exact h
    · by_cases g : (c.toNat : Int) = 10
      · simp only [g, decide_true, Bool.not_true, Bool.false_and] at h ⊢; exact h
      · simp only [g, decide_false, Bool.not_false, Bool.true_and, Bool.true_or] at h
        have := opn_mono l true h
        by_cases g2 : (c.toNat : Int) = 35
        · simp only [g, g2, decide_false, decide_true, Bool.not_false, Bool.true_and, Bool.false_or]; exact h
        · simp only [g, g2, decide_false, Bool.not_false, Bool.true_and, Bool.false_or]; exact this
theorem opn_app : ∀ (l m : List UInt8) (b : Bool), opn b (l ++ m) = opn (opn b l) m
  | [], m, b => rfl
  | c :: l, m, b => by
    show opn _ (l ++ m) = opn (opn _ l) m
    exact opn_app l m _
/-- In a gap it tells whether a comment is open. -/
theorem opn_gap : ∀ (l : List UInt8) (b b' : Bool), gapF b l = some b' → opn b l = b'
  | [], b, b', h => by unfold gapF at h; unfold opn; exact Option.some.inj h
  | c :: l, b, b', h => by
    unfold opn
    have h10 : ((c.toNat : Int) = 10) ↔ c = 10 := (byte_eq (n := 10) (by omega)).symm
    have h35 : ((c.toNat : Int) = 35) ↔ c = 35 := (byte_eq (n := 35) (by omega)).symm
    cases b
    · unfold gapF at h
      split at h
      · rename_i q
        have q : blankB (c.toNat : Int) = true := q
        have n35 : ¬ (c.toNat : Int) = 35 := by simp only [blankB, Bool.or_eq_true, decide_eq_true_eq] at q; omega
        simp only [n35, decide_false, Bool.or_self, Bool.and_false]
        exact opn_gap l _ _ h
      · split at h
        · rename_i q
          have q := h35.2 q
          simp only [q, decide_true, Bool.or_true, Bool.and_true]
          exact opn_gap l _ _ h
        · cases h
    · unfold gapF at h
      split at h
      · rename_i q
        have q := h10.2 q
        simp only [q, decide_true, Bool.not_true, Bool.false_and]
        exact opn_gap l _ _ h
      · rename_i q
        have q : ¬ (c.toNat : Int) = 10 := fun e => q (h10.1 e)
        simp only [q, decide_false, Bool.not_false, Bool.true_or, Bool.and_true]
        exact opn_gap l _ _ h
def fromN (ts : List Tok) : Nat := if 1 < ts.length then ((ts.getD (ts.length - 2) ⟨0, [], 0⟩).pos + (ts.getD (ts.length - 2) ⟨0, [], 0⟩).text.length) else 0
def ComIs (s : ByteArray) (ts : List Tok) (w : World) (e : Ending) (w' : World) : Prop := e = .returned (.bool (opn false (s.data.toList.drop (fromN ts)))) ∧ Below w.heap.size w w'
theorem opn_at (s : ByteArray) (k : Nat) (b : Bool) (h : k < s.size) : opn b (s.data.toList.drop k) = opn (!decide ((s[k].toNat : Int) = 10) && (b || decide ((s[k].toNat : Int) = 35))) (s.data.toList.drop (k + 1)) := by
  rw [drop_cons s k h]; rfl
set_option maxRecDepth 100000 in
set_option maxHeartbeats 4000000 in
theorem comments_any (s : ByteArray) (C : Option Addr) (cc : Nat) (ts : List Tok) (w : World) {B : Nat} (hs : s.size ≤ 1000000) (hC : ToksAt w B C (ts.map mt)) (hB : B ≤ w.heap.size) (hl : ts.length ≤ 1000000) (hf : fromN ts ≤ s.size) :
    Calls Try.prog 15 #[.string s, .slice C ts.length cc] w (ComIs s ts w) := by
  by_cases h1 : 1 < ts.length
  case neg =>
    have hf0 : Hid (fromN ts = 0) := by show _ = _; unfold fromN; rw [if_neg h1]
    clear hf
    have h1' : ¬ (1 : Int) < (ts.length : Int) := by omega
    go_enter Try.func15, Try.ntmps15
    go_wp2_with fail
    go_loop [7, 8] (fun o i => ∃ (k : Nat) (b : Bool), k ≤ s.size ∧ i = .int .i64 k ∧ o = .bool b ∧ Hid (opn false (s.data.toList.drop (fromN ts)) = opn b (s.data.toList.drop k))) (fun _ i => s.size - (intOf i).toNat)
    case atStart => exact ⟨0, false, by omega, rfl, rfl, by show _ = _; rw [hf0.out]⟩
    case round =>
      obtain ⟨k, b, hk, rfl, rfl, hR⟩ := hrel
      by_cases hlt : k < s.size
      · have hR := hR.out
        rw [opn_at s k b hlt] at hR
        obtain ⟨c, hc⟩ : ∃ c : Int, (s[k].toNat : Int) = c := ⟨_, rfl⟩
        rw [hc] at hR
        by_cases g10 : c = 10
        · subst g10
          have hR : Hid (opn false (s.data.toList.drop (fromN ts)) = opn false (s.data.toList.drop (k + 1))) := by show _ = _; simpa using hR
          go_wp2_with fail
          go_round
          case rel => exact ⟨k + 1, false, by omega, by go_num, rfl, hR⟩
          case measure => simp [intOf]; omega
        · have q1 : (c != 10) = true := by rw [bne_iff_ne]; exact g10
          have hR : Hid (opn false (s.data.toList.drop (fromN ts)) = opn (b || c == 35) (s.data.toList.drop (k + 1))) := by
            show _ = _
            rw [hR]; congr 1; simp [g10]; rfl
          clear g10
          cases b
          · have hR : Hid (opn false (s.data.toList.drop (fromN ts)) = opn (c == 35) (s.data.toList.drop (k + 1))) := by show _ = _; have := hR.out; simpa using this
            go_wp2_with fail
            go_round
            case rel => exact ⟨k + 1, c == 35, by omega, by go_num, rfl, hR⟩
            case measure => simp [intOf]; omega
          · have hR : Hid (opn false (s.data.toList.drop (fromN ts)) = opn true (s.data.toList.drop (k + 1))) := by show _ = _; have := hR.out; simpa using this
            go_wp2_with fail
            go_round
            case rel => exact ⟨k + 1, true, by omega, by go_num, rfl, hR⟩
            case measure => simp [intOf]; omega
      · obtain rfl : k = s.size := by omega
        have hR : Hid (opn false (s.data.toList.drop (fromN ts)) = b) := by
          show _ = _
          rw [hR.out, List.drop_of_length_le (by simp)]; rfl
        go_wp2_with fail
        go_ret
        exact ⟨ret_bool hR.out.symm, Below.refl _ _⟩
  obtain ⟨t, ht⟩ : ∃ t, ts[ts.length - 2]? = some t := ⟨_, List.getElem?_eq_getElem (by omega)⟩
  have hf0 : Hid (fromN ts = t.pos + t.text.length) := by
    show _ = _
    unfold fromN
    rw [if_pos h1, List.getD_eq_getElem?_getD, ht]; rfl
  rw [hf0.out] at hf
  obtain ⟨b, off, rfl, hb, c0, c1, c2⟩ := hC.tok ht
  have s1 : (bs t.text).size = t.text.length := rfl
  have h1' : (1 : Int) < (ts.length : Int) := by omega
  clear ht
  go_enter Try.func15, Try.ntmps15
  go_wp2_with fail
  go_loop [7, 8] (fun o i => ∃ (k : Nat) (b : Bool), k ≤ s.size ∧ i = .int .i64 k ∧ o = .bool b ∧ Hid (opn false (s.data.toList.drop (fromN ts)) = opn b (s.data.toList.drop k))) (fun _ i => s.size - (intOf i).toNat)
  case atStart => exact ⟨t.pos + t.text.length, false, by omega, by go_num, rfl, by show _ = _; rw [hf0.out]⟩
  case round =>
    obtain ⟨k, b, hk, rfl, rfl, hR⟩ := hrel
    by_cases hlt : k < s.size
    · have hR := hR.out
      rw [opn_at s k b hlt] at hR
      obtain ⟨c, hc⟩ : ∃ c : Int, (s[k].toNat : Int) = c := ⟨_, rfl⟩
      rw [hc] at hR
      by_cases g10 : c = 10
      · subst g10
        have hR : Hid (opn false (s.data.toList.drop (fromN ts)) = opn false (s.data.toList.drop (k + 1))) := by show _ = _; simpa using hR
        go_wp2_with fail
        go_round
        case rel => exact ⟨k + 1, false, by omega, by go_num, rfl, hR⟩
        case measure => simp [intOf]; omega
      · have q1 : (c != 10) = true := by rw [bne_iff_ne]; exact g10
        have hR : Hid (opn false (s.data.toList.drop (fromN ts)) = opn (b || c == 35) (s.data.toList.drop (k + 1))) := by
          show _ = _
          rw [hR]; congr 1; simp [g10]; rfl
        clear g10
        cases b
        · have hR : Hid (opn false (s.data.toList.drop (fromN ts)) = opn (c == 35) (s.data.toList.drop (k + 1))) := by show _ = _; have := hR.out; simpa using this
          go_wp2_with fail
          go_round
          case rel => exact ⟨k + 1, c == 35, by omega, by go_num, rfl, hR⟩
          case measure => simp [intOf]; omega
        · have hR : Hid (opn false (s.data.toList.drop (fromN ts)) = opn true (s.data.toList.drop (k + 1))) := by show _ = _; have := hR.out; simpa using this
          go_wp2_with fail
          go_round
          case rel => exact ⟨k + 1, true, by omega, by go_num, rfl, hR⟩
          case measure => simp [intOf]; omega
    · obtain rfl : k = s.size := by omega
      have hR : Hid (opn false (s.data.toList.drop (fromN ts)) = b) := by
        show _ = _
        rw [hR.out, List.drop_of_length_le (by simp)]; rfl
      go_wp2_with fail
      go_ret
      exact ⟨ret_bool hR.out.symm, (Below.refl _ _).alloc (Nat.le_refl _) _⟩
end Go.Proofs.Ytaemahhcacolgaa
