/- The walk of the reference's Write. -/
import Derived.Test.YtaemahhcacolgaaW20
namespace Go.Proofs.Ytaemahhcacolgaa
open Go.RowKit LX

theorem bs_app (l m : List UInt8) : bs l ++ bs m = bs (l ++ m) := by
  apply ByteArray.ext; rw [ByteArray.data_append]; simp [bs]
theorem bs_blank (l : List UInt8) : bs l ++ (⟨#[32]⟩ : ByteArray) = bs (l ++ [32]) := bs_app l [32]
theorem joinTail_snoc (r : List (List UInt8)) (x : List UInt8) : Lib.joinTail [32] (r ++ [x]) = Lib.joinTail [32] r ++ [32] ++ x := by simp [Lib.joinTail]
theorem join_snoc : ∀ (r : List (List UInt8)) (x : List UInt8), Lib.join (r ++ [x]) [32] = if r.isEmpty then x else Lib.join r [32] ++ [32] ++ x
  | [], x => by simp [Lib.join_one]
  | y :: r, x => by
    rw [List.cons_append, Lib.join_cons, joinTail_snoc, Lib.join_cons]; simp
theorem join_len (M : Nat) : ∀ (r : List (List UInt8)), (∀ x ∈ r, x.length ≤ M) → (Lib.join r [32]).length ≤ r.length * (M + 1)
  | [], _ => by simp [Lib.join_nil]
  | y :: r, h => by
    rw [Lib.join_cons, List.length_append, Lib.joinTail_length]
    have h1 := h y (List.mem_cons_self ..)
    have h2 : Lib.lens r ≤ r.length * M := by
      clear h1
      unfold Lib.lens
      induction r with
      | nil => simp
      | cons z r ih =>
        have h3 := h z (by simp)
        have h4 := ih (fun x hx => h x (by rcases List.mem_cons.1 hx with q | q; · rw [q]; simp
                                           · simp [q]))
        simp only [List.map_cons, List.sum_cons, List.length_cons, Nat.succ_mul] at h4 ⊢
        omega
    have e : (r.length + 1) * (M + 1) = r.length * M + r.length + (M + 1) := by rw [Nat.succ_mul, Nat.mul_succ]
    simp only [List.length_cons, List.length_nil]
    rw [e]
    omega
theorem parts_small {A : List MTok} {M : Nat} (h : ∀ t ∈ A, t.2.1.length ≤ M) : ∀ x ∈ partsM A, x.length ≤ M + 2 := by
  intro x hx
  obtain ⟨t, ht, hw⟩ := List.mem_filterMap.1 hx
  have := h t ht
  unfold wrM at hw
  split at hw
  · obtain rfl := Option.some.inj hw; omega
  · split at hw
    · obtain rfl := Option.some.inj hw; simp; omega
    · cases hw
theorem write_len {A : List MTok} {M : Nat} (h : ∀ t ∈ A, t.2.1.length ≤ M) : (writeM A).length ≤ A.length * (M + 3) :=
  Nat.le_trans (join_len (M + 2) _ (parts_small h)) (Nat.mul_le_mul_right _ (parts_len A))
theorem write_take_len {A : List MTok} {M k : Nat} (h : ∀ t ∈ A, t.2.1.length ≤ M) : (writeM (A.take k)).length ≤ A.length * (M + 3) := by
  refine Nat.le_trans (write_len fun t ht => h t (List.mem_of_mem_take ht)) (Nat.mul_le_mul_right _ ?_)
  rw [List.length_take]; omega
theorem write_more {A : List MTok} {k : Nat} {x : Int} {y u l : List UInt8} {z : Int} {q : Bool} (ha : A[k]? = some (x, y, z)) (hw : wrM (x, y, z) = some u) (hl : l = writeM (A.take k)) (hq : q = (partsM (A.take k)).isEmpty) :
    (q = true → l ++ u = writeM (A.take (k + 1))) ∧ (q = false → l ++ [32] ++ u = writeM (A.take (k + 1))) ∧ (partsM (A.take (k + 1))).isEmpty = false := by
  have e := parts_snoc A k x y z ha
  rw [hw] at e
  have e : partsM (A.take (k + 1)) = partsM (A.take k) ++ [u] := e
  have e2 : writeM (A.take (k + 1)) = if (partsM (A.take k)).isEmpty then u else Lib.join (partsM (A.take k)) [32] ++ [32] ++ u := by unfold writeM; rw [e, join_snoc]
  refine ⟨fun h => ?_, fun h => ?_, by rw [e]; simp⟩
  · rw [h] at hq
    rw [e2, ← hq, if_pos rfl, hl]
    have : partsM (A.take k) = [] := by simpa using hq.symm
    unfold writeM; rw [this]; rfl
  · rw [h] at hq
    rw [e2, ← hq, if_neg (by simp), hl]; rfl
theorem write_same {A : List MTok} {k : Nat} {x : Int} {y : List UInt8} {z : Int} (ha : A[k]? = some (x, y, z)) (hw : wrM (x, y, z) = none) : writeM (A.take (k + 1)) = writeM (A.take k) ∧ partsM (A.take (k + 1)) = partsM (A.take k) := by
  have e := parts_snoc A k x y z ha
  rw [hw] at e
  have e : partsM (A.take (k + 1)) = partsM (A.take k) := by rw [e]; simp
  exact ⟨by unfold writeM; rw [e], e⟩
theorem ret_str {a b : List UInt8} (h : a = b) : Ending.returned (.string (bs a)) = .returned (.string (bs b)) := by rw [h]
def RWriteIs (A : List MTok) (w : World) (e : Ending) (w' : World) : Prop := e = .returned (.string (bs (writeM A))) ∧ w = w'
set_option maxRecDepth 100000 in
set_option maxHeartbeats 4000000 in
theorem rwrite_any (C : Option Addr) (cc : Nat) (A : List MTok) (w : World) {B : Nat} (hC : ToksAt w B C A) (hl : A.length ≤ 1000000) (hT : ∀ t ∈ A, t.2.1.length ≤ 1000000) :
    Calls Try.prog 14 #[.slice C A.length cc] w (RWriteIs A w) := by
  have HT := Lib.hid hT
  clear hT
  go_enter Try.func14, Try.ntmps14
  go_wp2_with fail
  go_loop [3, 4, 5] (fun s q i => ∃ (k : Nat) (l : List UInt8) (b : Bool), k ≤ A.length ∧ i = .int .i64 k ∧ s = .string (bs l) ∧ q = .bool (!b) ∧ Hid (l = writeM (A.take k)) ∧ Hid (b = (partsM (A.take k)).isEmpty)) (fun _ _ i => A.length - (intOf i).toNat)
  case atStart => exact ⟨0, [], true, Nat.zero_le _, rfl, rfl, rfl, rfl, rfl⟩
  case round =>
    obtain ⟨k, l, b, hk, rfl, rfl, rfl, hl0, hb0⟩ := hrel
    have hlb := write_take_len (k := k) HT.out
    rw [← hl0.out] at hlb
    have hlb : l.length ≤ 2000000000000 := by omega
    by_cases hlt : k < A.length
    · obtain ⟨bk, off, x, y, z, rfl, hbk, ha, c0, c1, c2⟩ := hC.at_ hlt
      have hy := HT.out _ (List.mem_of_getElem? ha.out)
      have hy : y.length ≤ 1000000 := hy
      have s1 : (bs y).size = y.length := rfl
      have s2 : (bs l).size = l.length := rfl
      have s3 : (bs (l ++ [32])).size = l.length + 1 := by show (l ++ [32]).length = _; simp
      rcases (show x = 0 ∨ x = 1 ∨ x = 3 ∨ x = 2 ∨ (x ≠ 0 ∧ x ≠ 1 ∧ x ≠ 2 ∧ x ≠ 3) by omega) with rfl | rfl | rfl | rfl | ⟨n0, n1, n2, n3⟩
      · obtain ⟨m1, m2, m3⟩ := write_more (u := y) ha.out rfl hl0.out hb0.out
        have q1 := bs_blank l
        cases b
        · have M2 := Lib.hid (m2 rfl)
          have M3 := Lib.hid m3.symm
          have q2 := bs_app (l ++ [32]) (y)
          clear m1 m2 m3 ha
          go_wp2_with fail
          clear q1 q2
          go_round
          case rel => exact ⟨k + 1, l ++ [32] ++ (y), false, by omega, by go_num, by simp, rfl, M2, M3⟩
          case measure => simp [intOf]; omega
        · have M1 := Lib.hid (m1 rfl)
          have M3 := Lib.hid m3.symm
          have q2 := bs_app l (y)
          clear m1 m2 m3 ha q1
          go_wp2_with fail
          clear q2
          go_round
          case rel => exact ⟨k + 1, l ++ (y), false, by omega, by go_num, rfl, rfl, M1, M3⟩
          case measure => simp [intOf]; omega
      · obtain ⟨m1, m2, m3⟩ := write_more (u := y) ha.out rfl hl0.out hb0.out
        have q1 := bs_blank l
        cases b
        · have M2 := Lib.hid (m2 rfl)
          have M3 := Lib.hid m3.symm
          have q2 := bs_app (l ++ [32]) (y)
          clear m1 m2 m3 ha
          go_wp2_with fail
          clear q1 q2
          go_round
          case rel => exact ⟨k + 1, l ++ [32] ++ (y), false, by omega, by go_num, by simp, rfl, M2, M3⟩
          case measure => simp [intOf]; omega
        · have M1 := Lib.hid (m1 rfl)
          have M3 := Lib.hid m3.symm
          have q2 := bs_app l (y)
          clear m1 m2 m3 ha q1
          go_wp2_with fail
          clear q2
          go_round
          case rel => exact ⟨k + 1, l ++ (y), false, by omega, by go_num, rfl, rfl, M1, M3⟩
          case measure => simp [intOf]; omega
      · obtain ⟨m1, m2, m3⟩ := write_more (u := y) ha.out rfl hl0.out hb0.out
        have q1 := bs_blank l
        cases b
        · have M2 := Lib.hid (m2 rfl)
          have M3 := Lib.hid m3.symm
          have q2 := bs_app (l ++ [32]) (y)
          clear m1 m2 m3 ha
          go_wp2_with fail
          clear q1 q2
          go_round
          case rel => exact ⟨k + 1, l ++ [32] ++ (y), false, by omega, by go_num, by simp, rfl, M2, M3⟩
          case measure => simp [intOf]; omega
        · have M1 := Lib.hid (m1 rfl)
          have M3 := Lib.hid m3.symm
          have q2 := bs_app l (y)
          clear m1 m2 m3 ha q1
          go_wp2_with fail
          clear q2
          go_round
          case rel => exact ⟨k + 1, l ++ (y), false, by omega, by go_num, rfl, rfl, M1, M3⟩
          case measure => simp [intOf]; omega
      · obtain ⟨m1, m2, m3⟩ := write_more (u := 34 :: (y ++ [34])) ha.out rfl hl0.out hb0.out
        have s4 : (bs (34 :: y)).size = y.length + 1 := rfl
        have s5 : (bs (34 :: (y ++ [34]))).size = y.length + 2 := by show (34 :: (y ++ [34])).length = _; simp
        have q3 := quote_left y
        have q4 := quote_right y
        have q1 := bs_blank l
        cases b
        · have M2 := Lib.hid (m2 rfl)
          have M3 := Lib.hid m3.symm
          have q2 := bs_app (l ++ [32]) (34 :: (y ++ [34]))
          clear m1 m2 m3 ha
          go_wp2_with fail
          clear q1 q2 q3 q4
          go_round
          case rel => exact ⟨k + 1, l ++ [32] ++ (34 :: (y ++ [34])), false, by omega, by go_num, by simp, rfl, M2, M3⟩
          case measure => simp [intOf]; omega
        · have M1 := Lib.hid (m1 rfl)
          have M3 := Lib.hid m3.symm
          have q2 := bs_app l (34 :: (y ++ [34]))
          clear m1 m2 m3 ha q1
          go_wp2_with fail
          clear q2 q3 q4
          go_round
          case rel => exact ⟨k + 1, l ++ (34 :: (y ++ [34])), false, by omega, by go_num, rfl, rfl, M1, M3⟩
          case measure => simp [intOf]; omega
      · obtain ⟨m1, m2⟩ := write_same ha.out (by unfold wrM; rw [if_neg (by simp; omega), if_neg n2])
        have m1 : Hid (l = writeM (A.take (k + 1))) := hl0.out.trans m1.symm
        have m3 : Hid (b = (partsM (A.take (k + 1))).isEmpty) := by show b = _; rw [m2]; exact hb0.out
        have e0 : (x == 0) = false := by simpa using n0
        have e1 : (x == 1) = false := by simpa using n1
        have e2 : (x == 2) = false := by simpa using n2
        have e3 : (x == 3) = false := by simpa using n3
        clear m2 n0 n1 n2 n3 ha
        go_wp2_with fail
        go_round
        case rel => exact ⟨k + 1, l, b, by omega, by go_num, rfl, rfl, m1, m3⟩
        case measure => simp [intOf]; omega
    · obtain rfl : k = A.length := by omega
      have hl1 : Hid (l = writeM A) := by show l = _; rw [hl0.out, List.take_length]
      clear hl0 hb0
      go_wp2_with fail
      go_ret
      exact ⟨ret_str hl1.out, rfl⟩
end Go.Proofs.Ytaemahhcacolgaa
