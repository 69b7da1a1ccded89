/- The walk of token. -/
import Derived.Test.YtaemahhcacolgaaW4
namespace Go.Proofs.Ytaemahhcacolgaa
open Go.RowKit LX

def bs (l : List UInt8) : ByteArray := ⟨l.toArray⟩
theorem bs_list (l : List UInt8) : (bs l).data.toList = l := by simp [bs]
theorem bs_of (s : ByteArray) : bs s.data.toList = s := by simp [bs]
theorem ext_bs (s : ByteArray) (a b : Nat) : s.extract a b = bs ((s.data.toList.drop a).take (b - a)) := by
  have h := bs_of (s.extract a b)
  rw [← h]
  congr 1
  rw [ByteArray.data_extract]
  simp
theorem bs_size (l : List UInt8) : (bs l).size = l.length := rfl
def tokV (k : Int) (t : List UInt8) (p : Nat) : Value := .agg #[.int .i64 k, .string (bs t), .int .i64 p]
def TokIs (s : ByteArray) (a : Nat) (w : World) (e : Ending) (w' : World) : Prop :=
  e = .returned (.tuple #[tokV (tokL (s.data.toList.drop a)).kind (tokL (s.data.toList.drop a)).text a, .int .i64 ((a + (tokL (s.data.toList.drop a)).n : Nat) : Int), .bool (tokL (s.data.toList.drop a)).ok]) ∧ Below w.heap.size w w'
theorem tok_is (s : ByteArray) (a : Nat) (w w' : World) (hw : Below w.heap.size w w') (r : Raw) (hr : Hid (tokL (s.data.toList.drop a) = r)) (k : Int) (t : ByteArray) (n : Int) (b : Bool) (hk : k = r.kind) (ht : t = bs r.text) (hn : n = ((a + r.n : Nat) : Int)) (hb : b = r.ok) :
    TokIs s a w (.returned (.tuple #[.agg #[.int .i64 k, .string t, .int .i64 a], .int .i64 n, .bool b])) w' := by
  subst hk ht hn hb
  unfold TokIs
  rw [hr.out]
  exact ⟨rfl, hw⟩
theorem token_letter (s : ByteArray) (a : Nat) (w : World) (hs : s.size ≤ 9223372036854775807) (ha : a < s.size) (hc : letterB (s[a].toNat : Int) = true) :
    Calls Try.prog 22 #[.string s, .int .i64 a] w (TokIs s a w) := by
  have hL : Hid (tokL (s.data.toList.drop a) = ⟨0, (s.data.toList.drop a).take (run (on nameB) (s.data.toList.drop a)), run (on nameB) (s.data.toList.drop a), decide (run (on nameB) (s.data.toList.drop a) ≤ 24)⟩) := by
    have h := drop_cons s a ha
    rcases tokL_cases s[a] (s.data.toList.drop (a + 1)) with ⟨_, e⟩ | ⟨q, _⟩ | ⟨q, _⟩ | ⟨q, _⟩
    · rw [← h] at e; exact e
    all_goals (have q : letterB (s[a].toNat : Int) = false := q; rw [hc] at q; cases q)
  have K1 := fun wx => letter_any (s[a].toNat : Int) wx
  simp only [hc] at K1
  have K1 := Lib.hid K1
  have K2 := fun wx => run_name s a wx hs (by omega)
  unfold RunIs at K2
  have hle := run_le (on nameB) (s.data.toList.drop a)
  simp only [List.length_drop, Array.length_toList] at hle
  have hsz : s.data.size = s.size := rfl
  obtain ⟨n, hn⟩ : ∃ n, n = run (on nameB) (s.data.toList.drop a) := ⟨_, rfl⟩
  simp only [← hn] at K2 hle hL
  have K2 := Lib.hid K2
  clear hn hc
  go_enter Try.func22, Try.ntmps22
  go_wp2_with (first | (go_at_call 35; ((with_reducible refine (K1.out _).mono ?_); rintro e1 w1 ⟨rfl, rfl⟩)) | (go_at_call 33; ((with_reducible refine (K2.out _).mono ?_); rintro e1 w1 ⟨rfl, rfl⟩)) | fail)
  refine bodyPost_ret (v := .tuple #[.agg #[.int .i64 0, .string (s.extract a (a + n)), .int .i64 a], .int .i64 ((a : Int) + n), .bool (decide ((a : Int) + n - a ≤ 24))]) (by simp [results, Try.results22, go_sem]) rfl ?_
  exact tok_is s a w _ ((Below.refl _ _).alloc (Nat.le_refl _) _) _ hL _ _ _ _ rfl (by rw [ext_bs]; congr 2; omega) (by simp) (by simp; omega)
end Go.Proofs.Ytaemahhcacolgaa
