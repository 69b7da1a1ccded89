/- The law LexFails, walked. -/
import Derived.Test.YtaemahhcacolgaaW22
namespace Go.Proofs.Ytaemahhcacolgaa
open Go.RowKit LX

theorem ext_take (s : ByteArray) (k : Nat) : (s.extract 0 k).data.toList = s.data.toList.take k := by
  rw [ByteArray.data_extract]; simp
theorem ext_drop (s : ByteArray) (k : Nat) : (s.extract k s.size).data.toList = s.data.toList.drop k := by
  rw [ByteArray.data_extract]
  have : s.data.size = s.size := rfl
  simp [List.take_of_length_le, this]
theorem ext_size (s : ByteArray) (a b : Nat) : (s.extract a b).size ≤ s.size := by
  rw [ByteArray.size_extract]; omega
theorem line_list (s t : ByteArray) : ((s ++ (⟨#[10]⟩ : ByteArray)) ++ t).data.toList = s.data.toList ++ 10 :: t.data.toList := by
  rw [ByteArray.data_append, ByteArray.data_append]; simp
set_option maxRecDepth 100000 in
set_option maxHeartbeats 4000000 in
theorem fails_any (s t : ByteArray) (w : World) (hs : s.size ≤ 9223372036854775807) (ht : t.size ≤ 9223372036854775807) :
    Calls Try.prog 6 #[.string s, .string t] w (TrueIs w) := by
  have K8 := Lib.hid fun wx => small_any wx
  by_cases h4 : s.size ≤ 4000
  case neg =>
    have h4' : (4000 : Int) < (s.size : Int) := by omega
    go_enter Try.func6, Try.ntmps6
    go_wp2_with (first | (go_at_call 8; ((with_reducible refine (K8.out _).mono ?_); rintro e1 w1 ⟨rfl, hb1⟩)) | fail)
    go_ret
    exact ⟨rfl, hb1⟩
  have h4' : ¬ (4000 : Int) < (s.size : Int) := by omega
  by_cases h1 : t.size ≤ 1000
  case neg =>
    have h1' : (1000 : Int) < (t.size : Int) := by omega
    go_enter Try.func6, Try.ntmps6
    go_wp2_with (first | (go_at_call 8; ((with_reducible refine (K8.out _).mono ?_); rintro e1 w1 ⟨rfl, hb1⟩)) | fail)
    go_ret
    exact ⟨rfl, hb1⟩
  have h1' : ¬ (1000 : Int) < (t.size : Int) := by omega
  obtain ⟨ts, err, hsc⟩ := Sc.total s.size s.data.toList 0 (Nat.le_refl _)
  cases err with
  | none =>
    have K1 := Lib.hid fun wx => scan_ok s wx (by omega) hsc
    clear hsc
    go_enter Try.func6, Try.ntmps6
    go_wp2_with (first | (go_at_call 8; ((with_reducible refine (K8.out _).mono ?_); rintro e1 w1 ⟨rfl, hb1⟩)) | (go_at_call 10; ((with_reducible refine (K1.out _).mono ?_); rintro e3 w3 ⟨C3, c3, rfl, hT3, hb3⟩)) | fail)
    go_ret
    exact ⟨rfl, hb1.trans (hb3.mono hb1.size)⟩
  | some p =>
    obtain ⟨k, hk, hlt, ⟨us, hu⟩, ⟨vs, hv⟩, hm⟩ := hsc.cut
    obtain ⟨xs, hx⟩ := hm t.data.toList
    obtain rfl : p = k := by omega
    simp only [Array.length_toList] at hlt
    have hlt : p < s.size := hlt
    have z1 := ext_size s 0 p
    have z2 := ext_size s p s.size
    have z3 : ((s ++ (⟨#[10]⟩ : ByteArray)) ++ t).size = s.size + 1 + t.size := by rw [ByteArray.size_append, ByteArray.size_append]; rfl
    have z4 : (s ++ (⟨#[10]⟩ : ByteArray)).size = s.size + 1 := by rw [ByteArray.size_append]; rfl
    have K1 := Lib.hid fun wx => scan_bad s wx (by omega) hsc
    have K2 := Lib.hid fun wx => scan_ok (s.extract 0 p) wx (by omega) (by rw [ext_take]; exact hu)
    have K3 := Lib.hid fun wx => scan_bad (s.extract p s.size) wx (by omega) (by rw [ext_drop]; exact hv)
    have K4 := Lib.hid fun wx => scan_bad ((s ++ (⟨#[10]⟩ : ByteArray)) ++ t) wx (by omega) (by rw [line_list]; exact hx)
    clear hsc hu hv hm hx z1 z2 z3 hk
    go_enter Try.func6, Try.ntmps6
    go_wp2_with (first | (go_at_call 8; ((with_reducible refine (K8.out _).mono ?_); rintro e1 w1 ⟨rfl, hb1⟩)) | (go_at_call 10; ((with_reducible refine (K1.out _).mono ?_); rintro e3 w3 ⟨rfl, hb3⟩)) | (go_at_call 10; ((with_reducible refine (K2.out _).mono ?_); rintro e4 w4 ⟨C4, c4, rfl, hT4, hb4⟩)) | (go_at_call 10; ((with_reducible refine (K3.out _).mono ?_); rintro e5 w5 ⟨rfl, hb5⟩)) | (go_at_call 10; ((with_reducible refine (K4.out _).mono ?_); rintro e6 w6 ⟨rfl, hb6⟩)) | fail)
    go_ret
    exact ⟨rfl, (((hb1.trans (hb3.mono hb1.size)).trans (hb4.mono (Nat.le_trans hb1.size hb3.size))).trans (hb5.mono (Nat.le_trans (Nat.le_trans hb1.size hb3.size) hb4.size))).trans (hb6.mono (Nat.le_trans (Nat.le_trans (Nat.le_trans hb1.size hb3.size) hb4.size) hb5.size))⟩
end Go.Proofs.Ytaemahhcacolgaa
