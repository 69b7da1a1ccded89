/- The walks of file and rows, the statements' helpers. -/
import Derived.Test.YtmnimcdbfolhaaaWP
set_option linter.unusedSimpArgs false
set_option linter.unusedVariables false
namespace Go.Proofs.Ytmnimcdbfolhaaa
open Go.RowKit DK
attribute [local go_sem] alloc_drewN setCell_drewN shape_drewN
namespace DK
theorem wapp_up {s : St} (h : Up s) {f : Nat} (hf : f < 8) (R : List Bts) (x : Bts) (hx : x.length ≤ 1048576) (hl : (s.data f).length + (x.length + 7) ≤ 16777216) :
    wappS s (f : Int) R x = (0, { s with data := upd s.data f (s.data f ++ recd x), q := s.q ++ pend f (s.data f).length (recd x) }, R ++ [x]) := by
  unfold wappS
  rw [if_neg (by omega), append_up h hf (recd x) (by rw [recd_len]; exact hl)]
  rfl
end DK
def FileIs (l : List Bts) (w : World) (e : Ending) (w' : World) : Prop := e = .returned (.tuple #[.string (bs (recs l)), .bool true]) ∧ Below w.heap.size w w'
set_option maxRecDepth 100000 in
set_option maxHeartbeats 2000000 in
theorem file_any (A : Option Addr) (c : Nat) (l : List Bts) (w : World) (hA : StrsAt w w.heap.size A l) (hl : l.length ≤ 1000) (hm : ∀ x ∈ l, x.length ≤ 1048576) (hlen : (recs l).length ≤ 100000) :
    Calls Try.prog 11 #[.slice A l.length c] w (FileIs l w) := by
  have hA1 : StrsP (fun k => k < w.heap.size) w A l := StrsP.of_at hA (Nat.le_refl _) fun _ h => h
  replace hA1 := Lib.hid hA1
  replace hm := Lib.hid hm
  clear hA
  unfold FileIs
  go_enter Try.func11, Try.ntmps11
  go_wp2_with fail
  go_at_call 15
  refine (HasP.new (fun k => k < w.heap.size) w (Below.refl _ _) (fun _ h => h)).mono ?_
  rintro e w2 ⟨b, rfl, h, hbe, hb2⟩
  have k2 : Keep (fun k => k < w.heap.size) w w2 := Keep.of_below hb2
  have hO := open_up Up.zero (f := 0) (by omega)
  have hR : rowsOf (St.zero.data (0 : Int).toNat) = [] := rowsOf_eq (rows_recs (l := []) (fun _ h => by cases h))
  have KO := Lib.hid (open_yes h 0 (by omega) hO hR)
  unfold dp at KO ⊢
  clear hbe hO hR
  go_wp2_with fail
  go_at_call 17
  refine KO.out.mono ?_
  rintro e w3 ⟨lb, rfl, hW, k3, -⟩
  have hUp := opnS_up Up.zero 0
  have hD : (opnS St.zero 0).data 0 = recs ([] : List Bts) := by rw [opnS_data]; rw [show rowsOf (St.zero.data 0) = [] from rowsOf_eq (rows_recs (l := []) (fun _ h => by cases h))]
  replace k3 := Lib.hid (k2.trans k3)
  generalize opnS St.zero 0 = s0 at hUp hD hW
  replace hW := Lib.hid hW
  replace hUp := Lib.hid hUp
  replace hD := Lib.hid hD
  clear k2 KO h hb2
  unfold lp
  obtain ⟨n, hn⟩ : ∃ n, l.length = n := ⟨_, rfl⟩
  rw [hn] at hl ⊢
  go_wp2_with fail
  go_loopw [7] (fun u7 wr => ∃ (k : Nat) (s : St), k ≤ n ∧ u7 = .int .i64 k ∧ Hid (Wal w b lb (0 : Nat) (fun k => k < w.heap.size) k wr s (l.take k)) ∧ Hid (Up s) ∧ Hid (s.data 0 = recs (l.take k)) ∧ Hid (Keep (fun k => k < w.heap.size) w wr)) (fun u7 _ => n - (intOf u7).toNat)
  case atStart => exact ⟨0, s0, Nat.zero_le _, rfl, hW, hUp, hD, k3⟩
  case round =>
    obtain ⟨k, s, hk, rfl, hWs, hUs, hDs, hKs⟩ := hrel
    by_cases hlt : k < n
    · have e1 : (k : Int) < (n : Int) := by omega
      obtain ⟨x, hx⟩ : ∃ x, l[k]? = some x := ⟨_, List.getElem?_eq_getElem (by omega)⟩
      obtain ⟨ab, ao, rfl, hab, hac⟩ := (hA1.out.keep hKs.out).at_.at_ hx
      have hxl := hm.out x (List.mem_of_getElem? hx)
      have hrt := recs_take hx
      have hle := recs_take_le l (k + 1)
      rw [hrt, List.length_append, recd_len] at hle
      have hv := wapp_up hUs.out (f := 0) (by omega) (l.take k) x hxl (by rw [hDs.out]; omega)
      rw [show l.take k ++ [x] = l.take (k + 1) by rw [List.take_add_one, hx]; rfl] at hv
      have KA := Lib.hid (wapp_any hWs.out x (by omega) (by rw [List.length_take]; omega) (by omega) hv)
      have hD2 : Hid (upd s.data 0 (s.data 0 ++ recd x) 0 = recs (l.take (k + 1))) := by show _ = _; rw [upd_same, hDs.out, hrt]
      have hU2 : Hid (Up { s with data := upd s.data 0 (s.data 0 ++ recd x), q := s.q ++ pend 0 (s.data 0).length (recd x) }) := ⟨hUs.out.down, hUs.out.armed, hUs.out.lost⟩
      unfold lp at KA
      clear hv hx hrt hle
      go_wp2_with (first | (go_at_call 19; refine KA.out.mono ?_; rintro e w5 ⟨rfl, hW5, k5⟩) | fail)
      go_roundw
      case rel => exact ⟨k + 1, _, by omega, by go_num, hW5, hU2, hD2, hKs.out.trans k5⟩
      case measure => simp [intOf]; omega
    · have e1 : ¬ (k : Int) < (n : Int) := by omega
      have KR := Lib.hid (hWs.out.has.read (0 : Nat) (x := recs l) (v := 0) (by rw [read_up hUs.out.down (by omega), hDs.out, List.take_of_length_le (by omega)]))
      unfold dp at KR
      go_wp2_with fail
      go_at_call 20
      refine KR.out.mono ?_
      rintro e w5 ⟨rfl, rfl⟩
      go_wp2_with fail
      go_ret2
      exact ⟨rfl, hWs.out.below⟩
def RowsIs (x : Bts) (w : World) (e : Ending) (w' : World) : Prop := Below w.heap.size w w' ∧ ∃ A c, e = .returned (.tuple #[.slice A (rowsOf x).length c, .int .i64 ((recs (rowsOf x)).length : Nat), .bool true]) ∧ StrsAt w' w'.heap.size A (rowsOf x)
set_option maxRecDepth 100000 in
set_option maxHeartbeats 2000000 in
theorem rows_any (x : Bts) (w : World) (hx : x.length ≤ 100000) : Calls Try.prog 12 #[.string (bs x)] w (RowsIs x w) := by
  unfold RowsIs
  go_enter Try.func12, Try.ntmps12
  go_wp2_with fail
  go_at_call 15
  refine (HasP.new (fun k => k < w.heap.size) w (Below.refl _ _) (fun _ h => h)).mono ?_
  rintro e w2 ⟨b, rfl, h, -, -⟩
  obtain ⟨s1, hs1⟩ : ∃ s1, s1 = { St.zero with data := upd St.zero.data 0 (St.zero.data 0 ++ x), q := St.zero.q ++ pend 0 (St.zero.data 0).length x } := ⟨_, rfl⟩
  have hA := append_up Up.zero (f := 0) (by omega) x (by show 0 + _ ≤ _; omega)
  rw [← hs1] at hA
  have hU1 : Up s1 := by rw [hs1]; exact ⟨rfl, rfl, rfl⟩
  have hd1 : s1.data 0 = x := by rw [hs1]; show upd St.zero.data 0 (St.zero.data 0 ++ x) 0 = x; rw [upd_same]; rfl
  have KA := Lib.hid (h.append (0 : Nat) x (by omega) (by omega) (v := 0) (s' := s1) (by rw [hA]) (by rw [hA]))
  unfold dp at KA ⊢
  clear hA hs1
  go_wp2_with (first | (go_at_call 16; refine KA.out.mono ?_; rintro e w3 ⟨rfl, h3, k3⟩) | fail)
  have hO := open_up hU1 (f := 0) (by omega)
  have KO := Lib.hid (open_yes h3 0 (by omega) hO (R := rowsOf x) (by show rowsOf (s1.data 0) = _; rw [hd1]))
  unfold dp at KO
  go_at_call 17
  refine KO.out.mono ?_
  rintro e w4 ⟨lb, rfl, hW, k4, -⟩
  have hz : DK.size (opnS s1 0) (0 : Nat) = ((recs (rowsOf x)).length : Nat) := by rw [size_num (by omega), opnS_data, hd1]
  have hrl := rows_len x
  have KL := Lib.hid (all_any hW (by omega))
  have hH := hW.has
  clear hO KO KA
  unfold lp at KL ⊢
  go_wp2_with fail
  go_at_call 25
  refine KL.out.mono ?_
  rintro e w5 ⟨hb5, o, c, rfl, hO5⟩
  have KS := Lib.hid ((hH.below_ hb5).size (0 : Nat) hz)
  have hS5 := (strs_of_owns hO5).at_
  unfold dp at KS
  go_wp2_with fail
  go_at_call 21
  refine KS.out.mono ?_
  rintro e w6 ⟨rfl, rfl⟩
  go_wp2_with fail
  go_ret3
  exact ⟨(hH.below_ hb5).below, _, _, rfl, hS5⟩
end Go.Proofs.Ytmnimcdbfolhaaa
