/- Plain words of the log: the check sum, a row's record, the rows of a text. -/
import Derived.Test.YtmnimcdbfolhaaaDP
set_option linter.unusedSimpArgs false
set_option linter.unusedVariables false
namespace Go.Proofs.Ytmnimcdbfolhaaa
namespace DK
def cstep (r : Nat) : Nat := if r % 2 = 1 then (r / 2) ^^^ 33800 else r / 2
def cit : Nat → Nat → Nat
  | 0, r => r
  | k + 1, r => cit k (cstep r)
def creg : Bts → Nat → Nat
  | [], r => r
  | b :: l, r => creg l (cit 8 (r ^^^ b.toNat))
def crc (x : Bts) : Nat := creg x 65535 ^^^ 65535
theorem cstep_lt {r : Nat} (h : r < 65536) : cstep r < 65536 := by
  unfold cstep; split
  · exact Nat.xor_lt_two_pow (n := 16) (by omega) (by omega)
  · omega
theorem cit_lt : ∀ (k : Nat) {r : Nat}, r < 65536 → cit k r < 65536
  | 0, _, h => h
  | k + 1, _, h => cit_lt k (cstep_lt h)
theorem cit_next (k : Nat) : ∀ r, cit (k + 1) r = cstep (cit k r) := by
  induction k with
  | zero => intro r; rfl
  | succ k ih => intro r; show cit (k + 1) (cstep r) = _; rw [ih]; rfl
theorem xor_byte_lt {r : Nat} (h : r < 65536) (b : UInt8) : r ^^^ b.toNat < 65536 := Nat.xor_lt_two_pow (n := 16) h (by have := b.toNat_lt; omega)
theorem creg_lt : ∀ (l : Bts) {r : Nat}, r < 65536 → creg l r < 65536
  | [], _, h => h
  | b :: l, _, h => creg_lt l (cit_lt 8 (xor_byte_lt h b))
theorem crc_lt (x : Bts) : crc x < 65536 := Nat.xor_lt_two_pow (n := 16) (creg_lt x (by omega)) (by omega)
theorem creg_app : ∀ (a b : Bts) (r : Nat), creg (a ++ b) r = creg b (creg a r)
  | [], _, _ => rfl
  | x :: a, b, r => creg_app a b _
def byteN (n : Nat) : UInt8 := UInt8.ofNat n
theorem byteN_nat (n : Nat) : (byteN n).toNat = n % 256 := by unfold byteN; simp
/-- The three bytes of a length. -/
def len3 (n : Nat) : Bts := [byteN (n / 65536), byteN (n / 256), byteN n]
def chk (x : Bts) : Bts := len3 x.length ++ x
def recd (x : Bts) : Bts := 87 :: (chk x ++ [byteN (crc (chk x) / 256), byteN (crc (chk x)), 233])
def recs (l : List Bts) : Bts := (l.map recd).flatten
theorem recd_len (x : Bts) : (recd x).length = x.length + 7 := by simp [recd, chk, len3]
theorem recs_nil : recs [] = [] := rfl
theorem recs_cons (x : Bts) (l : List Bts) : recs (x :: l) = recd x ++ recs l := by simp [recs]
theorem recs_app (a b : List Bts) : recs (a ++ b) = recs a ++ recs b := by simp [recs]
theorem recs_one (x : Bts) : recs [x] = recd x := by simp [recs]
theorem recs_snoc (l : List Bts) (x : Bts) : recs (l ++ [x]) = recs l ++ recd x := by rw [recs_app, recs_one]
/-- A row stands at the front. -/
def Row (s x : Bts) : Prop := x.length ≤ 1048576 ∧ ∃ t, s = recd x ++ t
def noRow (s : Bts) : Prop := ∀ x, ¬ Row s x
/-- The length that the front tells. -/
def told (s : Bts) : Nat := (s.getD 1 0).toNat * 65536 + (s.getD 2 0).toNat * 256 + (s.getD 3 0).toNat
theorem told_recd {x : Bts} (h : x.length ≤ 1048576) (t : Bts) : told (recd x ++ t) = x.length := by
  show (byteN (x.length / 65536)).toNat * 65536 + (byteN (x.length / 256)).toNat * 256 + (byteN x.length).toNat = _
  rw [byteN_nat, byteN_nat, byteN_nat]; omega
theorem row_inj {s x y : Bts} (hx : Row s x) (hy : Row s y) : x = y := by
  obtain ⟨h1, t, rfl⟩ := hx
  obtain ⟨h2, u, e⟩ := hy
  have e1 := told_recd h1 t
  rw [e, told_recd h2] at e1
  have d : (recd x ++ t).drop 4 = (recd y ++ u).drop 4 := by rw [e]
  have f : ∀ (z v : Bts), ((recd z ++ v).drop 4).take z.length = z := by
    intro z v
    show (((z ++ [byteN (crc (chk z) / 256), byteN (crc (chk z)), 233]) ++ v)).take z.length = z
    rw [List.append_assoc, List.take_left]
  have g := f x t
  rw [d, ← e1, f y u] at g
  exact g.symm
/-- What the code tests. -/
def rowT (s : Bts) : Bool :=
  decide (7 ≤ s.length) && decide (s.getD 0 0 = 87) && decide (told s ≤ 1048576) && decide (told s + 7 ≤ s.length) &&
    decide ((s.getD (4 + told s) 0).toNat * 256 + (s.getD (5 + told s) 0).toNat = crc ((s.drop 1).take (3 + told s))) && decide (s.getD (6 + told s) 0 = 233)
theorem getD_cons {s : Bts} {k : Nat} (h : k < s.length) : s.drop k = s.getD k 0 :: s.drop (k + 1) := by
  rw [List.drop_eq_getElem_cons h]; simp [List.getD_eq_getElem?_getD, h]
theorem byte_eq {b c : UInt8} (h : b.toNat = c.toNat) : b = c := UInt8.toNat_inj.1 h
theorem rowT_row {s : Bts} (h : rowT s = true) : Row s ((s.drop 4).take (told s)) := by
  unfold rowT at h
  simp only [Bool.and_eq_true, decide_eq_true_eq] at h
  obtain ⟨⟨⟨⟨⟨h7, h0⟩, hn⟩, hl⟩, hc⟩, h9⟩ := h
  obtain ⟨n, hN⟩ : ∃ n, told s = n := ⟨_, rfl⟩
  rw [hN] at hn hl hc h9 ⊢
  obtain ⟨x, hx⟩ : ∃ x, (s.drop 4).take n = x := ⟨_, rfl⟩
  have hxl : x.length = n := by rw [← hx, List.length_take, List.length_drop]; omega
  rw [hx]
  have e3 : ((s.drop 1).take (3 + n)) = chk x := by
    rw [getD_cons (k := 1) (by omega), getD_cons (k := 2) (by omega), getD_cons (k := 3) (by omega)]
    show _ = len3 x.length ++ x
    rw [hxl, show 3 + n = n + 1 + 1 + 1 by omega, List.take_succ_cons, List.take_succ_cons, List.take_succ_cons, hx]
    have b1 := (s.getD 1 0).toNat_lt
    have b2 := (s.getD 2 0).toNat_lt
    have b3 := (s.getD 3 0).toNat_lt
    unfold told at hN
    have a1 : s.getD 1 0 = byteN (n / 65536) := byte_eq (by rw [byteN_nat]; omega)
    have a2 : s.getD 2 0 = byteN (n / 256) := byte_eq (by rw [byteN_nat]; omega)
    have a3 : s.getD 3 0 = byteN n := byte_eq (by rw [byteN_nat]; omega)
    rw [a1, a2, a3]; rfl
  rw [e3] at hc
  refine ⟨by omega, s.drop (n + 7), ?_⟩
  have hcl := crc_lt (chk x)
  have c1 := (s.getD (4 + n) 0).toNat_lt
  have c2 := (s.getD (5 + n) 0).toNat_lt
  have a4 : s.getD (4 + n) 0 = byteN (crc (chk x) / 256) := byte_eq (by rw [byteN_nat]; omega)
  have a5 : s.getD (5 + n) 0 = byteN (crc (chk x)) := byte_eq (by rw [byteN_nat]; omega)
  have e4 : s.drop 1 = chk x ++ s.drop (4 + n) := by
    have := (List.take_append_drop (3 + n) (s.drop 1)).symm
    rw [e3, List.drop_drop, show 1 + (3 + n) = 4 + n by omega] at this; exact this
  have e5 : s = 87 :: s.drop 1 := by
    have := getD_cons (s := s) (k := 0) (by omega)
    rw [List.drop_zero, h0] at this; exact this
  have e6 : s.drop (4 + n) = [byteN (crc (chk x) / 256), byteN (crc (chk x)), 233] ++ s.drop (n + 7) := by
    rw [getD_cons (k := 4 + n) (by omega), show 4 + n + 1 = 5 + n by omega, getD_cons (k := 5 + n) (by omega), show 5 + n + 1 = 6 + n by omega, getD_cons (k := 6 + n) (by omega), a4, a5, h9, show 6 + n + 1 = n + 7 by omega]; rfl
  have : s = 87 :: (chk x ++ ([byteN (crc (chk x) / 256), byteN (crc (chk x)), 233] ++ s.drop (n + 7))) := by rw [← e6, ← e4]; exact e5
  rw [this]
  show _ = 87 :: ((chk x ++ [byteN (crc (chk x) / 256), byteN (crc (chk x)), 233]) ++ _)
  rw [List.append_assoc]
  have e7 : List.drop (n + 7) (87 :: (chk x ++ ([byteN (crc (chk x) / 256), byteN (crc (chk x)), 233] ++ s.drop (n + 7)))) = s.drop (n + 7) := by rw [← this]
  rw [e7]
theorem row_rowT {s x : Bts} (h : Row s x) : rowT s = true ∧ told s = x.length := by
  obtain ⟨h1, t, rfl⟩ := h
  have ht := told_recd h1 t
  refine ⟨?_, ht⟩
  unfold rowT
  rw [ht]
  have hl : (recd x ++ t).length = x.length + 7 + t.length := by rw [List.length_append, recd_len]
  have hc := crc_lt (chk x)
  have g : ∀ k, (recd x ++ t).getD (4 + x.length + k) 0 = ([byteN (crc (chk x) / 256), byteN (crc (chk x)), 233] ++ t).getD k 0 := by
    intro k
    have e : recd x ++ t = (87 :: chk x) ++ ([byteN (crc (chk x) / 256), byteN (crc (chk x)), 233] ++ t) := by simp [recd]
    rw [e, List.getD_eq_getElem?_getD, List.getElem?_append_right (by simp [chk, len3]; omega), List.getD_eq_getElem?_getD]
    congr 2
    simp [chk, len3]; omega
  have g0 := g 0
  have g1 := g 1
  have g2 := g 2
  rw [Nat.add_zero] at g0
  rw [show 4 + x.length + 1 = 5 + x.length by omega] at g1
  rw [show 4 + x.length + 2 = 6 + x.length by omega] at g2
  rw [g0, g1, g2]
  have e3 : ((recd x ++ t).drop 1).take (3 + x.length) = chk x := by
    show ((chk x ++ _) ++ t).take _ = _
    rw [List.append_assoc, List.take_append_of_le_length (by simp [chk, len3]; omega), List.take_of_length_le (by simp [chk, len3]; omega)]
  rw [e3]
  show (decide _ && decide _ && decide _ && decide _ && decide ((byteN (crc (chk x) / 256)).toNat * 256 + (byteN (crc (chk x))).toNat = crc (chk x)) && decide _) = true
  rw [byteN_nat, byteN_nat]
  simp only [Bool.and_eq_true, decide_eq_true_eq]
  refine ⟨⟨⟨⟨⟨by omega, rfl⟩, h1⟩, by omega⟩, by omega⟩, rfl⟩
theorem noRow_of {s : Bts} (h : rowT s = false) : noRow s := fun x hx => by rw [(row_rowT hx).1] at h; cases h
/-- A text's rows: those in front, one behind the other. -/
structure Rows (s : Bts) (l : List Bts) : Prop where
  len : ∀ x ∈ l, x.length ≤ 1048576
  cut : ∃ t, s = recs l ++ t ∧ noRow t
theorem Rows.le {s : Bts} {l : List Bts} (h : Rows s l) : (recs l).length ≤ s.length := by obtain ⟨t, e, _⟩ := h.cut; rw [e, List.length_append]; omega
theorem rows_uniq {l m : List Bts} {t u : Bts} (hl : ∀ x ∈ l, x.length ≤ 1048576) (hm : ∀ x ∈ m, x.length ≤ 1048576) (ht : noRow t) (hu : noRow u) (e : recs l ++ t = recs m ++ u) : l = m := by
  induction l generalizing m with
  | nil =>
    cases m with
    | nil => rfl
    | cons y m =>
      rw [recs_nil, List.nil_append, recs_cons, List.append_assoc] at e
      exact absurd ⟨hm y (by simp), _, e⟩ (ht y)
  | cons x l ih =>
    cases m with
    | nil =>
      rw [recs_nil, List.nil_append, recs_cons, List.append_assoc] at e
      exact absurd ⟨hl x (by simp), _, e.symm⟩ (hu x)
    | cons y m =>
      rw [recs_cons, recs_cons, List.append_assoc, List.append_assoc] at e
      obtain rfl : x = y := row_inj (s := recd x ++ (recs l ++ t)) ⟨hl x (by simp), _, rfl⟩ ⟨hm y (by simp), _, e⟩
      rw [ih (fun z hz => hl z (by simp [hz])) (fun z hz => hm z (by simp [hz])) (List.append_cancel_left e)]
theorem Rows.uniq {s : Bts} {l m : List Bts} (h : Rows s l) (k : Rows s m) : l = m := by
  obtain ⟨t, e, ht⟩ := h.cut
  obtain ⟨u, e2, hu⟩ := k.cut
  exact rows_uniq h.len k.len ht hu (e.symm.trans e2)
theorem rows_total : ∀ (n : Nat) (s : Bts), s.length ≤ n → ∃ l, Rows s l
  | n, s, hn => by
    by_cases h : rowT s = true
    · obtain ⟨h1, t, e⟩ := rowT_row h
      cases n with
      | zero =>
        have := congrArg List.length e
        rw [List.length_append, recd_len] at this; omega
      | succ n =>
        obtain ⟨l, hl⟩ := rows_total n t (by have := congrArg List.length e; rw [List.length_append, recd_len] at this; omega)
        obtain ⟨u, e2, hu⟩ := hl.cut
        refine ⟨(s.drop 4).take (told s) :: l, fun x hx => ?_, u, ?_, hu⟩
        · rcases List.mem_cons.1 hx with rfl | hx
          · exact h1
          · exact hl.len x hx
        · rw [recs_cons, List.append_assoc, ← e2]; exact e
    · exact ⟨[], (fun x hx => by cases hx), s, rfl, noRow_of (by simpa using h)⟩
theorem rows_of (s : Bts) : ∃ l, Rows s l := rows_total _ s (Nat.le_refl _)
theorem noRow_nil : noRow [] := fun x h => by
  obtain ⟨_, t, e⟩ := h
  have := congrArg List.length e
  rw [List.length_append, recd_len] at this; simp at this; omega
theorem rows_recs {l : List Bts} (h : ∀ x ∈ l, x.length ≤ 1048576) : Rows (recs l) l := ⟨h, [], (List.append_nil _).symm, noRow_nil⟩
end DK
end Go.Proofs.Ytmnimcdbfolhaaa
