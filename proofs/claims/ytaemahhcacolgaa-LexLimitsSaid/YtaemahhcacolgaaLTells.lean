/- The law LexTells, walked. -/
import Derived.Test.YtaemahhcacolgaaW22
namespace Go.Proofs.Ytaemahhcacolgaa
open Go.RowKit LX

theorem toks_nil (w : World) (B : Nat) : ToksAt w B none [] := fun h => absurd h (by simp)
theorem few_facts {A : List MTok} (h : fewT A = true) : A.length ≤ 200 ∧ ∀ t ∈ A, t.2.1.length ≤ 600 := by
  unfold fewT at h
  rw [Bool.and_eq_true, decide_eq_true_eq, List.all_eq_true] at h
  exact ⟨h.1, fun t ht => of_decide_eq_true (h.2 t ht)⟩
theorem rscan_ok {s : ByteArray} {ts : List Tok} {w w' : World} {e : Ending} (h : ScanIs s ts none w e w') : OkIs ts w e w' := by
  obtain ⟨hb, ⟨_, C, cc, rfl, hT⟩ | ⟨p, he, _⟩⟩ := h
  · exact ⟨C, cc, rfl, hT, hb⟩
  · cases he
theorem rscan_bad {s : ByteArray} {ts : List Tok} {p : Nat} {w w' : World} {e : Ending} (h : ScanIs s ts (some p) w e w') : BadIs p w e w' := by
  obtain ⟨hb, ⟨he, _⟩ | ⟨q, he, rfl⟩⟩ := h
  · cases he
  · obtain rfl := Option.some.inj he
    exact ⟨rfl, hb⟩
theorem same_refl {C D : Option Addr} {c d : Nat} {ts : List Tok} {w : World} {M N : Nat} (h1 : ToksAt w M C (ts.map mt)) (h2 : ToksAt w N D (ts.map mt)) (hl : ts.length ≤ 100000) : Calls Try.prog 12 #[.slice C ts.length c, .slice D ts.length d, .bool true] w (TrueIs w) := by
  have hm : (ts.map mt).length = ts.length := by simp
  have := same_any C D c d (ts.map mt) (ts.map mt) true w h1 h2 (by omega) (by omega)
  rw [hm] at this
  refine this.mono ?_
  rintro e w' ⟨rfl, hb⟩
  exact ⟨ret_bool (sameT_yes rfl fun k s t h1 h2 => by rw [h1] at h2; rw [Option.some.inj h2]), hb⟩
set_option maxRecDepth 100000 in
set_option maxHeartbeats 4000000 in
theorem tells_any (s : ByteArray) (C : Option Addr) (cc : Nat) (A : List MTok) (w : World) (hs : s.size ≤ 9223372036854775807) (hC : ToksAt w w.heap.size C A) (hl : A.length ≤ 9223372036854775807) :
    Calls Try.prog 3 #[.string s, .slice C A.length cc] w (TrueIs w) := by
  have K8 := Lib.hid fun wx => small_any wx
  have K9 := fun (wx : World) (hx : Below w.heap.size w wx) => few_any C cc A wx (hC.below hx) hl
  unfold FewIs at K9
  by_cases h4 : s.size ≤ 4000
  case neg =>
    clear K9
    have h4' : (4000 : Int) < (s.size : Int) := by omega
    go_enter Try.func3, Try.ntmps3
    go_wp2_with (first | (go_at_call 8; ((with_reducible refine (K8.out _).mono ?_); rintro e1 w1 ⟨rfl, hb1⟩)) | fail)
    go_ret
    exact ⟨rfl, hb1⟩
  have h4' : ¬ (4000 : Int) < (s.size : Int) := by omega
  cases hf : fewT A
  · simp only [hf] at K9
    have K9 := Lib.hid K9
    go_enter Try.func3, Try.ntmps3
    go_wp2_with (first | (go_at_call 8; ((with_reducible refine (K8.out _).mono ?_); rintro e1 w1 ⟨rfl, hb1⟩)) | (go_at_call 9; ((with_reducible refine (K9.out _ hb1).mono ?_); rintro e2 w2 ⟨rfl, rfl⟩)) | fail)
    go_ret
    exact ⟨rfl, hb1⟩
  · simp only [hf] at K9
    have K9 := Lib.hid K9
    obtain ⟨f1, f2⟩ := few_facts hf
    clear hf
    have KW := Lib.hid fun (wx : World) (hx : Below w.heap.size w wx) => write_any C cc A wx (hC.below hx) hx.size (by omega) (fun t ht => by have := f2 t ht; omega) (by have := write_len (M := 600) f2; omega)
    have KR := Lib.hid fun (wx : World) (hx : Below w.heap.size w wx) => rwrite_any C cc A wx (hC.below hx) (by omega) (fun t ht => by have := f2 t ht; omega)
    clear f2
    obtain ⟨ts, err, hsc⟩ := Sc.total s.size s.data.toList 0 (Nat.le_refl _)
    have hln := (sc_len hsc).1
    simp only [Array.length_toList] at hln
    have hsz : s.data.size = s.size := rfl
    cases err with
    | none =>
      have K1 := Lib.hid fun wx => scan_ok s wx (by omega) hsc
      have K2 := Lib.hid fun wx => (rscan_any s wx (by omega) hsc).mono (fun e w' h => rscan_ok h)
      clear hsc
      go_enter Try.func3, Try.ntmps3
      go_wp2_with (first | (go_at_call 8; ((with_reducible refine (K8.out _).mono ?_); rintro e1 w1 ⟨rfl, hb1⟩)) | (go_at_call 9; ((with_reducible refine (K9.out _ hb1).mono ?_); rintro e2 w2 ⟨rfl, rfl⟩)) | (go_at_call 10; ((with_reducible refine (K1.out _).mono ?_); rintro e3 w3 ⟨C3, c3, rfl, hT3, hb3⟩)) | (go_at_call 11; ((with_reducible refine (K2.out _).mono ?_); rintro e4 w4 ⟨C4, c4, rfl, hT4, hb4⟩; have KS := Lib.hid (same_refl (c := c3) (d := c4) (hT3.below (hb4.mono (Nat.le_refl _))) hT4 (by omega)))) | (go_at_call 12; ((with_reducible refine KS.out.mono ?_); rintro e5 w5 ⟨rfl, hb5⟩; have hb25 : Below w.heap.size w w5 := ((hb1.trans (hb3.mono hb1.size)).trans (hb4.mono (Nat.le_trans hb1.size hb3.size))).trans (hb5.mono (Nat.le_trans (Nat.le_trans hb1.size hb3.size) hb4.size)))) | (go_at_call 13; ((with_reducible refine (KW.out _ hb25).mono ?_); rintro e6 w6 ⟨rfl, hb6⟩; have hb26 : Below w.heap.size w w6 := hb25.trans (hb6.mono hb25.size))) | (go_at_call 14; ((with_reducible refine (KR.out _ hb26).mono ?_); rintro e7 w7 ⟨rfl, rfl⟩)) | fail)
      go_ret
      exact ⟨rfl, hb26⟩
    | some p =>
      have K1 := Lib.hid fun wx => scan_bad s wx (by omega) hsc
      have K2 := Lib.hid fun wx => (rscan_any s wx (by omega) hsc).mono (fun e w' h => rscan_bad h)
      clear hsc
      have KS := Lib.hid fun wx => same_refl (c := 0) (d := 0) (ts := []) (toks_nil wx 0) (toks_nil wx 0) (by decide)
      go_enter Try.func3, Try.ntmps3
      go_wp2_with (first | (go_at_call 8; ((with_reducible refine (K8.out _).mono ?_); rintro e1 w1 ⟨rfl, hb1⟩)) | (go_at_call 9; ((with_reducible refine (K9.out _ hb1).mono ?_); rintro e2 w2 ⟨rfl, rfl⟩)) | (go_at_call 10; ((with_reducible refine (K1.out _).mono ?_); rintro e3 w3 ⟨rfl, hb3⟩)) | (go_at_call 11; ((with_reducible refine (K2.out _).mono ?_); rintro e4 w4 ⟨rfl, hb4⟩)) | (go_at_call 12; (refine (KS.out _).mono ?_; rintro e5 w5 ⟨rfl, hb5⟩; have hb25 : Below w.heap.size w w5 := ((hb1.trans (hb3.mono hb1.size)).trans (hb4.mono (Nat.le_trans hb1.size hb3.size))).trans (hb5.mono (Nat.le_trans (Nat.le_trans hb1.size hb3.size) hb4.size)))) | (go_at_call 13; ((with_reducible refine (KW.out _ hb25).mono ?_); rintro e6 w6 ⟨rfl, hb6⟩; have hb26 : Below w.heap.size w w6 := hb25.trans (hb6.mono hb25.size))) | (go_at_call 14; ((with_reducible refine (KR.out _ hb26).mono ?_); rintro e7 w7 ⟨rfl, rfl⟩)) | fail)
      go_ret
      exact ⟨rfl, hb26⟩
end Go.Proofs.Ytaemahhcacolgaa
