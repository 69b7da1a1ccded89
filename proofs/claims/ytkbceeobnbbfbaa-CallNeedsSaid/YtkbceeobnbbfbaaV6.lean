/- Walks of the reference's There and Left. -/
import Derived.Test.YtkbceeobnbbfbaaV3
set_option linter.unusedSimpArgs false
set_option linter.unusedVariables false
namespace Go.Proofs.Ytkbceeobnbbfbaa
open Go.RowKit CM
attribute [local go_sem] alloc_drewN setCell_drewN shape_drewN

theorem thereN_yes {pl : Pl} {S : List Int} {k q : Nat} (h : 0 < supF S k) (hq : q ∈ reach pl k) : thereN pl (supF S) (k + 1) q = satA (thereN pl (supF S) k q) (supF S k) := by rw [thereN_succ, if_pos ⟨h, hq⟩]
theorem thereN_no {pl : Pl} {S : List Int} {k q : Nat} (h : ¬ (0 < supF S k ∧ q ∈ reach pl k)) : thereN pl (supF S) (k + 1) q = thereN pl (supF S) k q := by rw [thereN_succ, if_neg h]
set_option maxHeartbeats 4000000 in
theorem there_any (X : Bas) (pl : Pl) (S : List Int) (C : Option Addr) (cc q : Nat) (w : World) {B : Nat} (hP : PlacesAt w B X.P pl) (hC : IntsAt w B C S) (hB : B ≤ w.heap.size) (hl : pl.length ≤ 1000000) (hs : S.length ≤ 9223372036854775807) (hS : ∀ x ∈ S, In64 x) :
    Calls Try.prog 45 #[.agg #[.string X.nm, .slice X.a1 X.l1 X.c1, .int .i64 X.cl, .slice X.P pl.length X.cP, .slice X.a4 X.l4 X.c4, .slice X.a5 X.l5 X.c5, .slice X.a6 X.l6 X.c6, .slice X.a7 X.l7 X.c7, .slice X.a8 X.l8 X.c8, .slice X.a9 X.l9 X.c9, .int .i64 X.er], .slice C S.length cc, .int .i64 q] w (fun e w' => e = .returned (.int .i64 (thereS pl (supF S) S.length q)) ∧ Below w.heap.size w w') := by
  have K1 := Lib.hid (fun (p : Int) (wx : World) (hp : PlacesAt wx B X.P pl) (hb : B ≤ wx.heap.size) => rreach_any X pl p wx hp hb hl)
  have K0 := Lib.hid (fun (l : List Nat) (C : Option Addr) (cc : Nat) (wx : World) (D : Nat) (hq : IntsAt wx D C (natsI l)) (hl : (natsI l).length ≤ 9223372036854775807) => has37_any (natsI l) C cc (q : Int) wx hq hl)
  have HP := Lib.hid hP
  have HS := Lib.hid hS
  clear hP hS
  go_enter Try.func45, Try.ntmps45
  go_wp2_with fail
  go_loopw [7, 8] (fun n i wr => ∃ (k : Nat) (N : Int), k ≤ pl.length ∧ k ≤ S.length ∧ i = .int .i64 k ∧ n = .int .i64 N ∧ Hid (N = thereN pl (supF S) k q) ∧ BoxB wr w.heap.size X pl ∧ Below w.heap.size w wr ∧ w.heap.size + 1 ≤ wr.heap.size) (fun _ i _ => pl.length - (intOf i).toNat)
  case atStart => exact ⟨0, 0, Nat.zero_le _, Nat.zero_le _, rfl, rfl, rfl, BoxB.new w X pl, (Below.refl _ _).alloc (Nat.le_refl _) _, by simp⟩
  case round =>
    obtain ⟨k, N, hk1, hk2, rfl, rfl, hN, hX, hBw, hz⟩ := hrel
    obtain ⟨x0, x1, x2, x3, x4, x5, x6, x7, x8, x9, x10⟩ := hX.cells
    by_cases h1 : k < pl.length
    case neg =>
      have hE : Hid (thereS pl (supF S) S.length q = N) := by show _ = _; rw [hN.out]; unfold thereS; congr 1; omega
      clear K1 K0
      go_wp2_with fail
      go_ret
      exact ⟨ret_int hE.out.symm, hBw⟩
    by_cases h2 : k < S.length
    case neg =>
      have hE : Hid (thereS pl (supF S) S.length q = N) := by show _ = _; rw [hN.out]; unfold thereS; congr 1; omega
      clear K1 K0
      go_wp2_with fail
      go_ret
      exact ⟨ret_int hE.out.symm, hBw⟩
    obtain ⟨s, hx⟩ : ∃ s, S[k]? = some s := ⟨_, List.getElem?_eq_getElem h2⟩
    obtain ⟨b, off, rfl, hb, c0⟩ := (IntsAt.below hC (hBw.mono hB)).at_ hx
    have hsF : supF S k = s := by unfold supF; rw [List.getD_eq_getElem?_getD, hx]; rfl
    have hsI : In64 s := hsF ▸ supF_in HS.out k
    have hVI : In64 N := by have := thereN_in (pl := pl) (sup := supF S) (fun p => supF_in HS.out p) k q; rw [← hN.out] at this; unfold In64; omega
    have hPw : Hid (PlacesAt wr B X.P pl) := HP.out.below (hBw.mono hB)
    have hbw : b < w.heap.size := by omega
    have yes := fun h1 h2 => (thereN_yes (pl := pl) (S := S) (k := k) (q := q) h1 h2)
    have no := fun h => (thereN_no (pl := pl) (S := S) (k := k) (q := q) h)
    rw [hsF, ← hN.out] at yes
    rw [hsF, ← hN.out] at no
    have K2 := Lib.hid (K1.out (k : Int) wr hPw.out (by omega))
    have yes := Lib.hid yes
    have no := Lib.hid no
    clear K1 hx hsF hN
    by_cases hq : q ∈ reach pl k
    case neg =>
      have no := Lib.hid (no.out (fun h => hq h.2))
      have hh : Hid (hasI (natsI (reach pl k)) (q : Int) = false) := by show _ = _; rw [hasI_nats]; exact decide_eq_false hq
      clear yes hq
      go_wp2_with (first | (go_at_call 30; ((with_reducible refine K2.out.mono ?_); rintro e1 w1 ⟨E, ee, rfl, hI, hFr, hb1⟩; have K3 := K0.out (reach pl k) E ee w1 _ hI (by rw [natsI_len]; have := nodup_len pl.length (reach pl k) (reach_nodup _ _) (fun q hq => reach_lt hq); omega); unfold BoolEq at K3; rw [natsI_len, hh.out] at K3; have K3 := Lib.hid K3)) | (go_at_call 26; ((with_reducible refine K3.out.mono ?_); rintro e2 w2 ⟨rfl, rfl⟩)) | fail)
      go_roundw
      case rel => exact ⟨k + 1, N, by omega, by omega, by go_num, rfl, no.out.symm, hX.below hb1 (by omega), hBw.trans (hb1.mono (by omega)), by have := hb1.size; omega⟩
      case measure => simp [intOf]; omega
    have hh : Hid (hasI (natsI (reach pl k)) (q : Int) = true) := by show _ = _; rw [hasI_nats]; exact decide_eq_true hq
    by_cases h3 : 0 < s
    case neg =>
      have no := Lib.hid (no.out (fun h => h3 h.1))
      clear yes hq
      go_wp2_with (first | (go_at_call 30; ((with_reducible refine K2.out.mono ?_); rintro e1 w1 ⟨E, ee, rfl, hI, hFr, hb1⟩; have c0 := (hb1.cell (p := ⟨b, off + k, none⟩) (by show b < _; omega)).trans c0; have K3 := K0.out (reach pl k) E ee w1 _ hI (by rw [natsI_len]; have := nodup_len pl.length (reach pl k) (reach_nodup _ _) (fun q hq => reach_lt hq); omega); unfold BoolEq at K3; rw [natsI_len, hh.out] at K3; have K3 := Lib.hid K3)) | (go_at_call 26; ((with_reducible refine K3.out.mono ?_); rintro e2 w2 ⟨rfl, rfl⟩)) | fail)
      go_roundw
      case rel => exact ⟨k + 1, N, by omega, by omega, by go_num, rfl, no.out.symm, hX.below hb1 (by omega), hBw.trans (hb1.mono (by omega)), by have := hb1.size; omega⟩
      case measure => simp [intOf]; omega
    · have yes := Lib.hid (yes.out h3 hq)
      have K4 := Lib.hid (fun wx => radd_any N s wx hVI hsI)
      clear no hq hVI hsI
      go_wp2_with (first | (go_at_call 30; ((with_reducible refine K2.out.mono ?_); rintro e1 w1 ⟨E, ee, rfl, hI, hFr, hb1⟩; have c0 := (hb1.cell (p := ⟨b, off + k, none⟩) (by show b < _; omega)).trans c0; have K3 := K0.out (reach pl k) E ee w1 _ hI (by rw [natsI_len]; have := nodup_len pl.length (reach pl k) (reach_nodup _ _) (fun q hq => reach_lt hq); omega); unfold BoolEq at K3; rw [natsI_len, hh.out] at K3; have K3 := Lib.hid K3)) | (go_at_call 26; ((with_reducible refine K3.out.mono ?_); rintro e2 w2 ⟨rfl, rfl⟩)) | (go_at_call 47; ((with_reducible refine (K4.out _).mono ?_); rintro e3 w3 ⟨rfl, rfl⟩)) | fail)
      go_roundw
      case rel => exact ⟨k + 1, _, by omega, by omega, by go_num, rfl, yes.out.symm, hX.below hb1 (by omega), hBw.trans (hb1.mono (by omega)), by have := hb1.size; omega⟩
      case measure => simp [intOf]; omega
end Go.Proofs.Ytkbceeobnbbfbaa
