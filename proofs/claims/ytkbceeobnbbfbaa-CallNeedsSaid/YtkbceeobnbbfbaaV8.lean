/- Walks of both Futile and of the reference's Left. -/
import Derived.Test.YtkbceeobnbbfbaaV6
set_option linter.unusedSimpArgs false
set_option linter.unusedVariables false
namespace Go.Proofs.Ytkbceeobnbbfbaa
open Go.RowKit CM
attribute [local go_sem] alloc_drewN setCell_drewN shape_drewN

theorem gotI_nat (G : List (Int × Int)) (k : Nat) : gotI G (k : Int) = gotG G k := by unfold gotI; rw [if_pos (by omega), Int.toNat_natCast]
theorem reach_len (pl : Pl) (p : Int) : (reach pl p).length ≤ pl.length := nodup_len _ _ (reach_nodup _ _) (fun _ h => reach_lt h)
def futF (pl : Pl) (s : Int) (p : Int) : Bool := isPl pl s && !hasI (natsI (reach pl p)) s
set_option maxHeartbeats 2000000 in
theorem futile_any (X : Bas) (pl : Pl) (s : Int) (r : Rt) (w : World) {B : Nat} (hP : PlacesAt w B X.P pl) (hB : B ≤ w.heap.size) (hl : pl.length ≤ 1000000) :
    Calls Try.prog 10 #[.agg #[.string X.nm, .slice X.a1 X.l1 X.c1, .int .i64 X.cl, .slice X.P pl.length X.cP, .slice X.a4 X.l4 X.c4, .slice X.a5 X.l5 X.c5, .slice X.a6 X.l6 X.c6, .slice X.a7 X.l7 X.c7, .slice X.a8 X.l8 X.c8, .slice X.a9 X.l9 X.c9, .int .i64 X.er], .int .i64 s, .agg #[.int .i64 r.id, .int .i64 r.owner, .int .i64 r.date, .int .i64 r.place, .int .i64 r.rate, .int .i64 r.from1, .int .i64 r.until1, .int .i64 r.back, .int .i64 r.backTo]] w (BoolIs (futF pl s r.place) w) := by
  have K1 := Lib.hid (fun (p : Int) (wx : World) (h : Below w.heap.size w wx) => reach_any X pl p wx (hP.below (h.mono hB)) (by have := h.size; omega) hl)
  have K2 := Lib.hid (fun wx => cisPlace_any X pl s wx (by omega))
  have K0 := Lib.hid (fun (l : List Nat) (C : Option Addr) (cc : Nat) (wx : World) (D : Nat) (hq : IntsAt wx D C (natsI l)) (hl : (natsI l).length ≤ 9223372036854775807) => contains_any (natsI l) C cc s wx hq hl)
  have hln := reach_len pl r.place
  cases hp : isPl pl s
  · have hF : Hid (futF pl s r.place = false) := by show _ = _; unfold futF; rw [hp]; rfl
    have K3 := K2.out
    unfold BoolIs at K3
    rw [hp] at K3
    have K3 := Lib.hid K3
    clear hp K2 K1 K0
    go_enter Try.func10, Try.ntmps10
    go_wp2_with (first | (go_at_call 28; ((with_reducible refine (K3.out _).mono ?_); rintro e1 w1 ⟨rfl, hb1⟩)) | fail)
    go_ret
    exact ⟨ret_bool hF.out.symm, (((Below.refl _ _).alloc (Nat.le_refl _) _).alloc (by simp) _).trans (hb1.mono (by simp; omega))⟩
  · have hF : Hid (futF pl s r.place = !hasI (natsI (reach pl r.place)) s) := by show _ = _; unfold futF; rw [hp]; rfl
    have K3 := K2.out
    unfold BoolIs at K3
    rw [hp] at K3
    have K3 := Lib.hid K3
    clear hp K2
    go_enter Try.func10, Try.ntmps10
    go_wp2_with (first | (go_at_call 28; ((with_reducible refine (K3.out _).mono ?_); rintro e1 w1 ⟨rfl, hb1⟩; have kc := (bcell hb1).1; have hB1 := (((Below.refl _ _).alloc (Nat.le_refl _) _).alloc (by simp) _).trans (hb1.mono (by simp; omega)))) | (go_at_call 25; ((with_reducible refine (K1.out _ _ hB1).mono ?_); rintro e2 w2 ⟨E, ee, rfl, hI, hFr, hb2⟩; have K4 := K0.out (reach pl r.place) E ee w2 _ hI (by rw [natsI_len]; omega); unfold BoolEq at K4; rw [natsI_len] at K4; have K4 := Lib.hid K4)) | (go_at_call 29; ((with_reducible refine K4.out.mono ?_); rintro e3 w3 ⟨rfl, rfl⟩)) | fail)
    go_ret
    exact ⟨ret_bool hF.out.symm, hB1.trans (hb2.mono hB1.size)⟩
set_option maxHeartbeats 2000000 in
theorem rfutile_any (X : Bas) (pl : Pl) (s : Int) (r : Rt) (w : World) {B : Nat} (hP : PlacesAt w B X.P pl) (hB : B ≤ w.heap.size) (hl : pl.length ≤ 1000000) :
    Calls Try.prog 11 #[.agg #[.string X.nm, .slice X.a1 X.l1 X.c1, .int .i64 X.cl, .slice X.P pl.length X.cP, .slice X.a4 X.l4 X.c4, .slice X.a5 X.l5 X.c5, .slice X.a6 X.l6 X.c6, .slice X.a7 X.l7 X.c7, .slice X.a8 X.l8 X.c8, .slice X.a9 X.l9 X.c9, .int .i64 X.er], .int .i64 s, .agg #[.int .i64 r.id, .int .i64 r.owner, .int .i64 r.date, .int .i64 r.place, .int .i64 r.rate, .int .i64 r.from1, .int .i64 r.until1, .int .i64 r.back, .int .i64 r.backTo]] w (BoolIs (futF pl s r.place) w) := by
  have K1 := Lib.hid (fun (p : Int) (wx : World) (h : Below w.heap.size w wx) => rreach_any X pl p wx (hP.below (h.mono hB)) (by have := h.size; omega) hl)
  have K0 := Lib.hid (fun (l : List Nat) (C : Option Addr) (cc : Nat) (wx : World) (D : Nat) (hq : IntsAt wx D C (natsI l)) (hl : (natsI l).length ≤ 9223372036854775807) => has37_any (natsI l) C cc s wx hq hl)
  have hln := reach_len pl r.place
  have hF : futF pl s r.place = (isPl pl s && !hasI (natsI (reach pl r.place)) s) := rfl
  by_cases h0 : 0 ≤ s
  case neg =>
    have hF : Hid (futF pl s r.place = false) := Lib.hid (by rw [hF, isPl_neg h0]; rfl)
    have d0 : decide (0 ≤ s) = false := decide_eq_false h0
    go_enter Try.func11, Try.ntmps11
    go_wp2_with (first | (go_at_call 30; ((with_reducible refine (K1.out _ _ (((Below.refl _ _).alloc (Nat.le_refl _) _).alloc (by simp) _)).mono ?_); rintro e2 w2 ⟨E, ee, rfl, hI, hFr, hb2⟩; have kc := (bcell hb2).1; have K4 := K0.out (reach pl r.place) E ee w2 _ hI (by rw [natsI_len]; omega); unfold BoolEq at K4; rw [natsI_len] at K4; have K4 := Lib.hid K4)) | (go_at_call 26; ((with_reducible refine K4.out.mono ?_); rintro e3 w3 ⟨rfl, rfl⟩)) | fail)
    go_ret
    exact ⟨ret_bool hF.out.symm, (((Below.refl _ _).alloc (Nat.le_refl _) _).alloc (by simp) _).trans (hb2.mono (by simp; omega))⟩
  have d0 : decide (0 ≤ s) = true := decide_eq_true h0
  by_cases h1 : s < pl.length
  case neg =>
    have hF : Hid (futF pl s r.place = false) := Lib.hid (by rw [hF, isPl_pos h0, decide_eq_false h1]; rfl)
    have d1 : decide (s < (pl.length : Int)) = false := decide_eq_false h1
    go_enter Try.func11, Try.ntmps11
    go_wp2_with (first | (go_at_call 30; ((with_reducible refine (K1.out _ _ (((Below.refl _ _).alloc (Nat.le_refl _) _).alloc (by simp) _)).mono ?_); rintro e2 w2 ⟨E, ee, rfl, hI, hFr, hb2⟩; have kc := (bcell hb2).1; have K4 := K0.out (reach pl r.place) E ee w2 _ hI (by rw [natsI_len]; omega); unfold BoolEq at K4; rw [natsI_len] at K4; have K4 := Lib.hid K4)) | (go_at_call 26; ((with_reducible refine K4.out.mono ?_); rintro e3 w3 ⟨rfl, rfl⟩)) | fail)
    go_ret
    exact ⟨ret_bool hF.out.symm, (((Below.refl _ _).alloc (Nat.le_refl _) _).alloc (by simp) _).trans (hb2.mono (by simp; omega))⟩
  have hF : Hid (futF pl s r.place = !hasI (natsI (reach pl r.place)) s) := Lib.hid (by rw [hF, isPl_pos h0, decide_eq_true h1]; rfl)
  have d1 : decide (s < (pl.length : Int)) = true := decide_eq_true h1
  go_enter Try.func11, Try.ntmps11
  go_wp2_with (first | (go_at_call 30; ((with_reducible refine (K1.out _ _ (((Below.refl _ _).alloc (Nat.le_refl _) _).alloc (by simp) _)).mono ?_); rintro e2 w2 ⟨E, ee, rfl, hI, hFr, hb2⟩; have kc := (bcell hb2).1; have K4 := K0.out (reach pl r.place) E ee w2 _ hI (by rw [natsI_len]; omega); unfold BoolEq at K4; rw [natsI_len] at K4; have K4 := Lib.hid K4)) | (go_at_call 26; ((with_reducible refine K4.out.mono ?_); rintro e3 w3 ⟨rfl, rfl⟩)) | fail)
  go_ret
  exact ⟨ret_bool hF.out.symm, (((Below.refl _ _).alloc (Nat.le_refl _) _).alloc (by simp) _).trans (hb2.mono (by simp; omega))⟩
def leftN (pl : Pl) (R : List Rt) (S : List Int) (G : List (Int × Int)) (k q : Nat) : Int := leftR pl R (supF S) S.length G k q
theorem leftN_yes {pl : Pl} {R : List Rt} {S : List Int} {G : List (Int × Int)} {k q : Nat} (h : q ∈ rcR pl R k) : leftN pl R S G (k + 1) q = wrap64 (leftN pl R S G k q - gotG G k) := by
  show (if _ then _ else _) = _; rw [if_pos h]; rfl
theorem leftN_no {pl : Pl} {R : List Rt} {S : List Int} {G : List (Int × Int)} {k q : Nat} (h : q ∉ rcR pl R k) : leftN pl R S G (k + 1) q = leftN pl R S G k q := by
  show (if _ then _ else _) = _; rw [if_neg h]; rfl
def IntBe (n : Int) (w : World) (e : Ending) (w' : World) : Prop := e = .returned (.int .i64 n) ∧ Below w.heap.size w w'
set_option maxHeartbeats 4000000 in
theorem left_any (X : Bas) (pl : Pl) (R : List Rt) (S : List Int) (G : List (Int × Int)) (C : Option Addr) (cr : Nat) (E : Option Addr) (cs : Nat) (D : Option Addr) (cg q : Nat) (w : World) {B : Nat} (hP : PlacesAt w B X.P pl) (hR : RightsAt w B C R) (hE : IntsAt w B E S) (hG : PairsAt w B D G) (hB : B ≤ w.heap.size)
    (hl : pl.length ≤ 1000000) (hr : R.length ≤ 1000000) (hg : G.length ≤ 1000000) (hs : S.length ≤ 9223372036854775807) (hS : ∀ x ∈ S, In64 x) :
    Calls Try.prog 37 #[.agg #[.string X.nm, .slice X.a1 X.l1 X.c1, .int .i64 X.cl, .slice X.P pl.length X.cP, .slice X.a4 X.l4 X.c4, .slice X.a5 X.l5 X.c5, .slice X.a6 X.l6 X.c6, .slice X.a7 X.l7 X.c7, .slice X.a8 X.l8 X.c8, .slice X.a9 X.l9 X.c9, .int .i64 X.er], .slice C R.length cr, .slice E S.length cs, .slice D G.length cg, .int .i64 q] w (IntBe (leftN pl R S G R.length q) w) := by
  have K3 := Lib.hid (fun (wx : World) (h : Below w.heap.size w wx) => there_any X pl S E cs q wx (B := B) (hP.below (h.mono hB)) (hE.below (h.mono hB)) (by have := h.size; omega) hl hs hS)
  have K1 := Lib.hid (fun (p : Int) (wx : World) (h : Below w.heap.size w wx) => rreach_any X pl p wx (hP.below (h.mono hB)) (by have := h.size; omega) hl)
  have K0 := Lib.hid (fun (l : List Nat) (C : Option Addr) (cc : Nat) (wx : World) (D : Nat) (hq : IntsAt wx D C (natsI l)) (hl : (natsI l).length ≤ 9223372036854775807) => has37_any (natsI l) C cc (q : Int) wx hq hl)
  have K2 := Lib.hid (fun (k : Nat) (wx : World) (h : Below w.heap.size w wx) => got_any G D cg (k : Int) wx (hG.below (h.mono hB)) hg)
  go_enter Try.func37, Try.ntmps37
  go_wp2_with (first | (go_at_call 45; ((with_reducible refine (K3.out _ ((Below.refl _ _).alloc (Nat.le_refl _) _)).mono ?_); rintro e1 w1 ⟨rfl, hb1⟩)) | fail)
  go_loopw [11, 12] (fun n i wr => ∃ (k : Nat) (N : Int), k ≤ R.length ∧ i = .int .i64 k ∧ n = .int .i64 N ∧ Hid (N = leftN pl R S G k q) ∧ BoxB wr w.heap.size X pl ∧ Below w.heap.size w wr ∧ w.heap.size + 1 ≤ wr.heap.size) (fun _ i _ => R.length - (intOf i).toNat)
  case atStart => exact ⟨0, _, Nat.zero_le _, rfl, rfl, rfl, (BoxB.new w X pl).below (B := w.heap.size + 1) (hb1.mono (by simp)) (by omega), ((Below.refl _ _).alloc (Nat.le_refl _) _).trans (hb1.mono (by simp)), by have := hb1.size; simpa using this⟩
  case round =>
    clear hb1 K3
    obtain ⟨k, N, hk, rfl, rfl, hN, hX, hBw, hz⟩ := hrel
    obtain ⟨x0, x1, x2, x3, x4, x5, x6, x7, x8, x9, x10⟩ := hX.cells
    by_cases hlt : k < R.length
    case neg =>
      have hke : k = R.length := by omega
      subst hke
      clear K1 K0 K2
      go_wp2_with fail
      go_ret
      exact ⟨ret_int hN.out, hBw⟩
    obtain ⟨r, hx⟩ : ∃ r, R[k]? = some r := ⟨_, List.getElem?_eq_getElem hlt⟩
    obtain ⟨b, off, rfl, hb, r0, r1, r2, r3, r4, r5, r6, r7, r8⟩ := (RightsAt.below hR (hBw.mono hB)).at_ hx
    have hrc : Hid (rcR pl R k = reach pl r.place) := by show _ = _; unfold rcR; rw [rtN_of hx]
    have hbw : b < wr.heap.size := by omega
    have hzw : w.heap.size < wr.heap.size := by omega
    have hkb : (0 : Int) ≤ (k : Int) ∧ (k : Int) < (R.length : Int) := by omega
    have hln := reach_len pl r.place
    have yes := Lib.hid (fun h => (leftN_yes (pl := pl) (R := R) (S := S) (G := G) (k := k) (q := q) h))
    have no := Lib.hid (fun h => (leftN_no (pl := pl) (R := R) (S := S) (G := G) (k := k) (q := q) h))
    clear hx
    by_cases hq : q ∈ reach pl r.place
    · have hh : Hid (hasI (natsI (reach pl r.place)) (q : Int) = true) := by show _ = _; rw [hasI_nats]; exact decide_eq_true hq
      have yes := Lib.hid (yes.out (by rw [hrc.out]; exact hq))
      have K5 := K2.out k
      unfold IntIs at K5
      rw [gotI_nat] at K5
      obtain ⟨gk, hgk⟩ : ∃ gk, gotG G k = gk := ⟨_, rfl⟩
      rw [hgk] at K5
      have yes2 : Hid (leftN pl R S G (k + 1) q = wrap64 (N - gk)) := by show _ = _; rw [yes.out, hgk, hN.out]
      have K5 := Lib.hid K5
      clear no hq hgk K2 yes
      go_upto_region 5 with fail
      refine Plan.wp_region_tree (.rd 0 (.rd 1 (.rd 2 (.rd 3 (.rd 4 (.rd 5 (.rd 7 (.wr 6 (.wr 8 (.rd 9 .done)))))))))) (by kernel_rfl) (by kernel_rfl) ?_
      (repeat (first | (refine Plan.tree_read (v := ?_) rfl rfl ?_ ?_; rotate_left; (focus ((intro wS hSw; have hkS := (bcell hSw).1; try (have hkT := fun (b o : Nat) (h : b < w.heap.size) => hkS b o (by first | omega | (simp; omega) | (simp; done))); go_simp); try with_reducible rfl)); simp only [Act.put, List.setIfInBounds_toArray, List.set_cons_zero, List.set_cons_succ]) | (refine Plan.tree_skip rfl rfl ?_; simp only [Act.put, List.setIfInBounds_toArray, List.set_cons_zero, List.set_cons_succ])))
      (refine Plan.tree_write rfl (fun K hK => ?_); try go_simp)
      go_at_call 30
      (with_reducible refine (K1.out _ _ hBw.drew).mono ?_)
      rintro e1 w1 ⟨E1, ee, rfl, hI, hFr, hb1⟩
      have kB := Plan.below_drew_go hb1
      (try go_simp)
      (refine hK.out _ _ (kB) ?_; clear hK K; try simp only [Act.put, List.setIfInBounds_toArray, List.set_cons_zero, List.set_cons_succ])
      (repeat (first | (refine Plan.tree_read (v := ?_) rfl rfl ?_ ?_; rotate_left; (focus ((intro wS hSw; have hkS := (bcell hSw).1; try (have hkT := fun (b o : Nat) (h : b < w.heap.size) => hkS b o (by first | omega | (simp; omega) | (simp; done))); go_simp); try with_reducible rfl)); simp only [Act.put, List.setIfInBounds_toArray, List.set_cons_zero, List.set_cons_succ]) | (refine Plan.tree_skip rfl rfl ?_; simp only [Act.put, List.setIfInBounds_toArray, List.set_cons_zero, List.set_cons_succ])))
      (refine Plan.tree_write rfl (fun K hK => ?_); try go_simp)
      have K4 := K0.out (reach pl r.place) E1 ee w1 _ hI (by rw [natsI_len]; omega)
      unfold BoolEq at K4
      rw [natsI_len, hh.out] at K4
      have K4 := Lib.hid K4
      go_at_call 26
      (with_reducible refine K4.out.mono ?_)
      rintro e2 w2 ⟨rfl, rfl⟩
      (try go_simp)
      (refine hK.out _ _ (kB) ?_; clear hK K; try simp only [Act.put, List.setIfInBounds_toArray, List.set_cons_zero, List.set_cons_succ])
      (repeat (first | (refine Plan.tree_read (v := ?_) rfl rfl ?_ ?_; rotate_left; (focus ((intro wS hSw; have hkS := (bcell hSw).1; try (have hkT := fun (b o : Nat) (h : b < w.heap.size) => hkS b o (by first | omega | (simp; omega) | (simp; done))); go_simp); try with_reducible rfl)); simp only [Act.put, List.setIfInBounds_toArray, List.set_cons_zero, List.set_cons_succ]) | (refine Plan.tree_skip rfl rfl ?_; simp only [Act.put, List.setIfInBounds_toArray, List.set_cons_zero, List.set_cons_succ])))
      refine Plan.tree_done ?_
      have hB2 := hBw.trans (kB.mono (by omega))
      go_wp2_with (first | (go_at_call 36; ((with_reducible refine (K5.out _ hB2).mono ?_); rintro e3 w3 ⟨rfl, rfl⟩)) | fail)
      have hX2 := hX.below kB hzw
      have hz2 : w.heap.size + 1 ≤ w1.heap.size := by have := kB.size; omega
      clear hX hBw hb1 hI kB
      go_roundw
      case rel => exact ⟨k + 1, _, by omega, by go_num, rfl, yes2.out.symm, hX2, hB2, hz2⟩
      case measure => simp [intOf]; omega
    · have hh : Hid (hasI (natsI (reach pl r.place)) (q : Int) = false) := by show _ = _; rw [hasI_nats]; exact decide_eq_false hq
      have no : Hid (leftN pl R S G (k + 1) q = N) := by show _ = _; rw [no.out (by rw [hrc.out]; exact hq), hN.out]
      clear yes hq K2
      go_upto_region 5 with fail
      refine Plan.wp_region_tree (.rd 0 (.rd 1 (.rd 2 (.rd 3 (.rd 4 (.rd 5 (.rd 7 (.wr 6 (.wr 8 (.rd 9 .done)))))))))) (by kernel_rfl) (by kernel_rfl) ?_
      (repeat (first | (refine Plan.tree_read (v := ?_) rfl rfl ?_ ?_; rotate_left; (focus ((intro wS hSw; have hkS := (bcell hSw).1; try (have hkT := fun (b o : Nat) (h : b < w.heap.size) => hkS b o (by first | omega | (simp; omega) | (simp; done))); go_simp); try with_reducible rfl)); simp only [Act.put, List.setIfInBounds_toArray, List.set_cons_zero, List.set_cons_succ]) | (refine Plan.tree_skip rfl rfl ?_; simp only [Act.put, List.setIfInBounds_toArray, List.set_cons_zero, List.set_cons_succ])))
      (refine Plan.tree_write rfl (fun K hK => ?_); try go_simp)
      go_at_call 30
      (with_reducible refine (K1.out _ _ hBw.drew).mono ?_)
      rintro e1 w1 ⟨E1, ee, rfl, hI, hFr, hb1⟩
      have kB := Plan.below_drew_go hb1
      (try go_simp)
      (refine hK.out _ _ (kB) ?_; clear hK K; try simp only [Act.put, List.setIfInBounds_toArray, List.set_cons_zero, List.set_cons_succ])
      (repeat (first | (refine Plan.tree_read (v := ?_) rfl rfl ?_ ?_; rotate_left; (focus ((intro wS hSw; have hkS := (bcell hSw).1; try (have hkT := fun (b o : Nat) (h : b < w.heap.size) => hkS b o (by first | omega | (simp; omega) | (simp; done))); go_simp); try with_reducible rfl)); simp only [Act.put, List.setIfInBounds_toArray, List.set_cons_zero, List.set_cons_succ]) | (refine Plan.tree_skip rfl rfl ?_; simp only [Act.put, List.setIfInBounds_toArray, List.set_cons_zero, List.set_cons_succ])))
      (refine Plan.tree_write rfl (fun K hK => ?_); try go_simp)
      have K4 := K0.out (reach pl r.place) E1 ee w1 _ hI (by rw [natsI_len]; omega)
      unfold BoolEq at K4
      rw [natsI_len, hh.out] at K4
      have K4 := Lib.hid K4
      go_at_call 26
      (with_reducible refine K4.out.mono ?_)
      rintro e2 w2 ⟨rfl, rfl⟩
      (try go_simp)
      (refine hK.out _ _ (kB) ?_; clear hK K; try simp only [Act.put, List.setIfInBounds_toArray, List.set_cons_zero, List.set_cons_succ])
      (repeat (first | (refine Plan.tree_read (v := ?_) rfl rfl ?_ ?_; rotate_left; (focus ((intro wS hSw; have hkS := (bcell hSw).1; try (have hkT := fun (b o : Nat) (h : b < w.heap.size) => hkS b o (by first | omega | (simp; omega) | (simp; done))); go_simp); try with_reducible rfl)); simp only [Act.put, List.setIfInBounds_toArray, List.set_cons_zero, List.set_cons_succ]) | (refine Plan.tree_skip rfl rfl ?_; simp only [Act.put, List.setIfInBounds_toArray, List.set_cons_zero, List.set_cons_succ])))
      refine Plan.tree_done ?_
      have hB2 := hBw.trans (kB.mono (by omega))
      go_wp2_with fail
      have hX2 := hX.below kB hzw
      have hz2 : w.heap.size + 1 ≤ w1.heap.size := by have := kB.size; omega
      clear hX hBw hb1 hI kB
      go_roundw
      case rel => exact ⟨k + 1, _, by omega, by go_num, rfl, no.out.symm, hX2, hB2, hz2⟩
      case measure => simp [intOf]; omega
end Go.Proofs.Ytkbceeobnbbfbaa
