/- Joined of: DY0 DY. -/
import Derived.Test.YthoigjkelinjhaaV6
import Derived.Test.YthoigjkelinjhaaMakeRow
/- Plain facts for the walk of Day. -/
set_option linter.unusedSimpArgs false
set_option linter.unusedVariables false
namespace Go.Proofs.Ythoigjkelinjhaa
open Go.RowKit CM

/-- What is left at a place ahead of the n-th right, and what that right gets. -/
def dayN (pl : Pl) (R : List Rt) (S : List Int) (n q : Nat) : Int := dayL (thereS pl (supF S) S.length) (rcR pl R) (rateR R) n q
def litN (pl : Pl) (R : List Rt) (S : List Int) (n : Nat) : Int := dayG (thereS pl (supF S) S.length) (rcR pl R) (rateR R) n
def dayLs (pl : Pl) (R : List Rt) (S : List Int) : List (Int × Int) := dayList pl R (supF S) S.length
section
variable {pl : Pl} {R : List Rt} {S : List Int}
theorem dayN_succ (n q : Nat) : dayN pl R S (n + 1) q = dayN pl R S n q - if q ∈ rcR pl R n then litN pl R S n else 0 := rfl
theorem thereS_in (hS : ∀ x ∈ S, In64 x) (q : Nat) : 0 ≤ thereS pl (supF S) S.length q ∧ thereS pl (supF S) S.length q ≤ 9223372036854775807 := thereN_in (fun p => supF_in hS p) _ q
theorem dayN_in (hS : ∀ x ∈ S, In64 x) (n q : Nat) : 0 ≤ dayN pl R S n q ∧ dayN pl R S n q ≤ 9223372036854775807 := by
  have h0 := fun q => (thereS_in (pl := pl) hS q).1
  refine ⟨dayL_nn h0 n q, ?_⟩
  have := dayL_mono (there := thereS pl (supF S) S.length) (rc := rcR pl R) (rate := rateR R) 0 n q
  rw [Nat.zero_add] at this
  have h1 : dayL (thereS pl (supF S) S.length) (rcR pl R) (rateR R) 0 q = thereS pl (supF S) S.length q := rfl
  have := (thereS_in (pl := pl) hS q).2
  unfold dayN; omega
theorem litN_le (hS : ∀ x ∈ S, In64 x) {n q : Nat} (hq : q ∈ rcR pl R n) : 0 ≤ litN pl R S n ∧ litN pl R S n ≤ dayN pl R S n q :=
  ⟨dayG_nn n, dayG_left (fun q => (thereS_in hS q).1) hq⟩
theorem litN_nil {n : Nat} (h : rcR pl R n = []) : litN pl R S n = 0 := by unfold litN dayG lit; rw [if_pos (by simp [h])]
theorem leastI_map (r : Int) (l : List Nat) (f : Nat → Int) : leastI r (l.map f) = leastL r l f := by
  unfold leastI leastL
  rw [List.foldl_map]
  congr 1
  funext a q
  split <;> omega
theorem litN_max {n : Nat} (h : rcR pl R n ≠ []) : litN pl R S n = max 0 (leastI (rateR R n) ((rcR pl R n).map (dayN pl R S n))) := by
  rw [leastI_map]; unfold litN dayG lit; rw [if_neg (by simpa using h)]; rfl
theorem dayLs_take (n : Nat) (hn : n < R.length) : (dayLs pl R S).take (n + 1) = (dayLs pl R S).take n ++ [((rtN R n).id, litN pl R S n)] := by
  rw [List.take_add_one]
  congr 1
  unfold dayLs dayList
  simp [hn]; rfl
theorem dayLs_len : (dayLs pl R S).length = R.length := dayList_len
theorem rcR_len (n : Nat) : (rcR pl R n).length ≤ pl.length := nodup_len _ _ (reach_nodup _ _) (fun _ h => reach_lt h)
end
def dayV (pl : Pl) (R : List Rt) (S : List Int) (k : Nat) : Nat → Value := fun q => .int .i64 (dayN pl R S k q)
/-- The first places have given what the right gets. -/
def dayM (pl : Pl) (R : List Rt) (S : List Int) (k : Nat) (l : List Nat) : Nat → Value := fun q => .int .i64 (if q ∈ l then dayN pl R S k q - litN pl R S k else dayN pl R S k q)
theorem dayM_nil (pl : Pl) (R : List Rt) (S : List Int) (k : Nat) : dayM pl R S k [] = dayV pl R S k := by
  funext q; unfold dayM dayV; rw [if_neg (by simp)]
theorem dayM_all (pl : Pl) (R : List Rt) (S : List Int) (k : Nat) : dayM pl R S k (rcR pl R k) = dayV pl R S (k + 1) := by
  funext q; unfold dayM dayV; rw [dayN_succ]
  by_cases h : q ∈ rcR pl R k
  · rw [if_pos h, if_pos h]
  · rw [if_neg h, if_neg h, Int.sub_zero]
theorem dayM_snoc (pl : Pl) (R : List Rt) (S : List Int) (k : Nat) (l : List Nat) (q j : Nat) : updF (dayM pl R S k l) q (.int .i64 (dayN pl R S k q - litN pl R S k)) j = dayM pl R S k (l ++ [q]) j := by
  unfold updF dayM
  by_cases h : j = q
  · subst h; simp
  · rw [if_neg h]; simp [h]
theorem dayM_new {pl : Pl} {R : List Rt} {S : List Int} {k : Nat} {l : List Nat} {q : Nat} (h : q ∉ l) : dayM pl R S k l q = .int .i64 (dayN pl R S k q) := by unfold dayM; rw [if_neg h]
theorem list_of {w w' : World} {l : List Nat} {C : Option Addr} (hne : l ≠ []) (hI : IntsAt w' w'.heap.size C (natsI l)) (hF : ∀ a, C = some a → w.heap.size ≤ a.block) :
    ∃ b off, C = some ⟨b, off, none⟩ ∧ w.heap.size ≤ b ∧ b < w'.heap.size ∧ ListAt w' b off l := by
  have hne : 0 < l.length := by
    rcases Nat.eq_zero_or_pos l.length with h | h
    · exact absurd (List.eq_nil_of_length_eq_zero h) hne
    · exact h
  obtain ⟨b, off, e, hb, hc⟩ := hI (by simpa [natsI] using hne)
  refine ⟨b, off, e, hF _ e, hb, fun j q hj => ?_⟩
  have hlt := (List.getElem?_eq_some_iff.1 hj).1
  rw [hc j (by simpa [natsI] using hlt)]
  simp [intF, natsI, List.getD_eq_getElem?_getD, hj]
theorem ListAt.below {w w' : World} {B b off : Nat} {l : List Nat} (h : ListAt w b off l) (hb : Below B w w') (hlt : b < B) : ListAt w' b off l := fun j q hj => (hb.cell (p := ⟨b, off + j, none⟩) hlt).trans (h j q hj)
theorem Try.infoGrant : (Try.prog.info? 61).map (fun i => (i.zero, i.size, i.bytes)) = some (some (.agg #[.int .i64 0, .int .i64 0]), 2, 16) := by kernel_rfl
theorem cell_two_at {w : World} {b : Nat} (hb : w.heap.size = b) (e : Nat) (x y : Value) : ∀ j u, [x, y][j]? = some u → (w.alloc (.cells #[x, y] e)).cell? ((⟨b, 0, none⟩ : Addr).add j) = some u := by
  subst hb
  intro j u hj
  rw [Addr.add_lit, Nat.zero_add, World.cell?_alloc_at _ _ _ _ rfl]
  simpa using hj
end Go.Proofs.Ythoigjkelinjhaa

/- The walk of Day. -/
namespace Go.Proofs.Ythoigjkelinjhaa
open Go.RowKit CM
attribute [local go_sem] alloc_drewN setCell_drewN shape_drewN

/-- What Day leaves. -/
def DayIs (pl : Pl) (R : List Rt) (S : List Int) (w : World) (e : Ending) (w' : World) : Prop := ∃ v, e = .returned (.tuple #[v, .slice (some ⟨w.heap.size + 1 + 1, 0, none⟩) pl.length pl.length]) ∧ w'.ownsRow (w.heap.size + 1 + 1 + 1) 61 2 v R.length (rowP (dayLs pl R S)) ∧
  Arr w' (w.heap.size + 1 + 1) pl.length (dayV pl R S R.length) ∧ Below w.heap.size w w' ∧ w.heap.size + 1 + 1 + 1 ≤ w'.heap.size
set_option maxRecDepth 100000 in
set_option maxHeartbeats 8000000 in
theorem day_any (X : Bas) (pl : Pl) (R : List Rt) (S : List Int) (C : Option Addr) (cr : Nat) (D : Option Addr) (cs : Nat) (w : World) {B : Nat} (hP : PlacesAt w B X.P pl) (hR : RightsAt w B C R) (hD : IntsAt w B D S) (hB : B ≤ w.heap.size) (hl : pl.length ≤ 1000000) (hr : R.length ≤ 1000000) (hs : S.length ≤ 9223372036854775807) (hS : ∀ x ∈ S, In64 x) :
    Calls Try.prog 11 #[.agg #[.string X.nm, .slice X.a1 X.l1 X.c1, .int .i64 X.cl, .slice X.P pl.length X.cP, .slice X.a4 X.l4 X.c4, .slice X.a5 X.l5 X.c5, .slice X.a6 X.l6 X.c6, .slice X.a7 X.l7 X.c7, .slice X.a8 X.l8 X.c8, .slice X.a9 X.l9 X.c9, .int .i64 X.er], .slice C R.length cr, .slice D S.length cs] w (DayIs pl R S w) := by
  obtain ⟨i0, hi, hz0, hz1, hz2⟩ := info_parts Try.infoInt
  obtain ⟨g0, gi, gz0, gz1, gz2⟩ := info_parts Try.infoGrant
  obtain ⟨M, hMs, hmk⟩ := make_row0 (P := Try.prog) 37 61 g0 _ 2 Try.underlying37 gi gz0 gz1 R.length (by rw [gz2]; omega) (by unfold maxLen; omega)
  have K0 := Lib.hid (fun (wx : World) (h : Below w.heap.size w wx) => begin_any X pl S D cs wx (B := B) (hP.below (h.mono hB)) (hD.below (h.mono hB)) (by have := h.size; omega) hl hs hS)
  have K1 := Lib.hid (fun (p : Int) (wx : World) (hp : PlacesAt wx B X.P pl) (hb : B ≤ wx.heap.size) => reach_any X pl p wx hp hb hl)
  have K2 := Lib.hid (fun (n : Int) (C : Option Addr) (cc : Nat) (l : List Int) (wx : World) (hq : IntsAt wx wx.heap.size C l) (hl : l.length ≤ 9223372036854775807) => least_any n C cc l wx hq hl)
  have HP := Lib.hid hP
  have HS := Lib.hid hS
  clear hP hS
  have HMs := Lib.hid hMs
  clear hMs
  go_enter Try.func11, Try.ntmps11
  go_wp2_with (first | (go_at_call 21; ((with_reducible refine (K0.out _ ((Below.refl _ _).alloc (Nat.le_refl _) _)).mono ?_); rintro e0 w1 ⟨rfl, hA1, hb0, hzb⟩)) | fail)
  rw [World.size_alloc] at hA1 hzb
  clear hmk K0
  go_loopw [9, 27] (fun gv i wr => ∃ k : Nat, k ≤ R.length ∧ i = .int .i64 k ∧ Arr wr (w.heap.size + 1 + 1) pl.length (dayV pl R S k) ∧ wr.ownsRow (w.heap.size + 1 + 1 + 1) 61 2 gv k (rowP ((dayLs pl R S).take k)) ∧ BoxB wr w.heap.size X pl ∧ Below w.heap.size w wr ∧ w.heap.size + 1 + 1 + 1 ≤ wr.heap.size) (fun _ i _ => R.length - (intOf i).toNat)
  case atStart =>
    refine ⟨0, Nat.zero_le _, rfl, ?_, ?_, ?_, ?_, ?_⟩
    · refine Arr.alloc (hA1.congr (fun j _ => ?_)) (by omega) _
      rfl
    · exact World.ownsRow_made w1 M R.length (by omega) (by unfold maxLen; omega) HMs.out
    · exact ((BoxB.new w X pl).below (B := w.heap.size + 1) (hb0.mono (by simp)) (by omega)).below (B := w.heap.size + 1) ((Below.refl _ _).alloc (by omega) _) (by omega)
    · exact (((Below.refl _ _).alloc (Nat.le_refl _) _).trans (hb0.mono (by simp))).alloc (by omega) _
    · simp; omega
  case round =>
    obtain ⟨k, hk, rfl, hA, hrow, hX, hBw, hz⟩ := hrel
    obtain ⟨x0, x1, x2, x3, x4, x5, x6, x7, x8, x9, x10⟩ := hX.cells
    by_cases hlt : k < R.length
    case neg =>
      have hke : k = R.length := by omega
      subst hke
      have hrow2 := Lib.hid hrow
      have hT : Hid ((dayLs pl R S).take R.length = dayLs pl R S) := by show _ = _; rw [← dayLs_len (pl := pl) (R := R) (S := S), List.take_length]
      clear hrow
      go_wp2_with fail
      go_ret2
      exact ⟨_, rfl, by have := hrow2.out; rw [hT.out] at this; exact this, hA, hBw, hz⟩
    obtain ⟨r, hx⟩ : ∃ r, R[k]? = some r := ⟨_, List.getElem?_eq_getElem hlt⟩
    obtain ⟨b, off, rfl, hb, r0, r1, r2, r3, r4, r5, r6, r7, r8⟩ := (RightsAt.below hR (hBw.mono hB)).at_ hx
    have hrt := Lib.hid (rtN_of hx)
    have hrc : Hid (rcR pl R k = reach pl r.place) := by show _ = _; unfold rcR; rw [hrt.out]
    have hrr : Hid (rateR R k = r.rate) := by show _ = _; unfold rateR; rw [hrt.out]
    have hbw : b < wr.heap.size := by omega
    have hzw : w.heap.size < wr.heap.size := by omega
    clear hx
    by_cases hne : reach pl r.place = []
    · have hlen : Hid ((reach pl r.place).length = 0) := by show _ = _; rw [hne]; rfl
      obtain ⟨L, hL⟩ : ∃ L : Int, Hid (L = litN pl R S k) := ⟨_, rfl⟩
      have hL0 : L = 0 := by rw [hL.out]; exact litN_nil (by rw [hrc.out]; exact hne)
      have hAk : Hid (dayV pl R S k = dayV pl R S (k + 1)) := by
        show _ = _; rw [← dayM_all, hrc.out, hne, dayM_nil]
      clear hne
      have K1b : Hid (∀ (wx : World), PlacesAt wx B X.P pl → B ≤ wx.heap.size → Calls Try.prog 22 #[.agg #[.string X.nm, .slice X.a1 X.l1 X.c1, .int .i64 X.cl, .slice X.P pl.length X.cP, .slice X.a4 X.l4 X.c4, .slice X.a5 X.l5 X.c5, .slice X.a6 X.l6 X.c6, .slice X.a7 X.l7 X.c7, .slice X.a8 X.l8 X.c8, .slice X.a9 X.l9 X.c9, .int .i64 X.er], .int .i64 r.place] wx fun e w' => ∃ E ee, e = .returned (.slice E 0 ee) ∧ Below wx.heap.size wx w') := fun wx h1 h2 => (K1.out r.place wx h1 h2).mono fun e w' ⟨E, ee, he, _, _, hb⟩ => ⟨E, ee, by rw [he, hlen.out], hb⟩
      have hL := hL
      subst hL0
      have kA := Lib.hid hA
      have kX := Lib.hid hX
      clear hA hX K2
      go_wp2_with (first | (go_at_call 22; ((with_reducible refine (K1b.out _ (HP.out.below ((hBw.alloc (by omega) _).mono hB)) (by simp; omega)).mono ?_); rintro e1 w3 ⟨E, ee, rfl, hb1⟩; have kc := (bcell hb1).1)) | fail)
      have hb9 : Below wr.heap.size wr w3 := ((Below.refl _ _).alloc (Nat.le_refl _) _).trans (hb1.mono (by simp))
      have q0 : w3.cell? ⟨wr.heap.size, 0, none⟩ = some (.int .i64 r.id) := by go_simp
      have hA3 : Arr w3 (w.heap.size + 1 + 1) pl.length (dayV pl R S (k + 1)) := by rw [← hAk.out]; exact kA.out.below hb9 (by omega)
      have hX3 := kX.out.below hb9 (by omega)
      have hrow3 := row_below hrow hb9
      have hBw3 := hBw.trans (hb9.mono (by omega))
      have hz3 := hb9.size
      have hz4 : wr.heap.size < w3.heap.size := by have := hb1.size; simp at this; omega
      obtain ⟨wo, rfl⟩ : ∃ wo, wo = wr := ⟨_, rfl⟩
      clear hb9 hrow kA kX K1b hb1 kc hBw x0 x1 x2 x3 x4 x5 x6 x7 x8 x9 x10
      go_loopw [62] (fun i wy => i = .int .i64 0 ∧ wy = w3) (fun _ _ => 0)
      case atStart => exact ⟨rfl, rfl⟩
      case round =>
        obtain ⟨rfl, rfl⟩ := hrel

        go_wp2_with (first | (at_builtin; refine wpList_append_own _ rfl _ _ 37 rfl (w.heap.size + 1 + 1 + 1) 61 g0 _ 2 16 Try.underlying37 gi gz0 gz1 gz2 rfl (by decide) _ k _ rfl (hrow3.alloc _) ⟨wr.heap.size, 0, none⟩ 1 1 [.int .i64 r.id, .int .i64 0] rfl rfl (cell_two_at (by simp) _ _ _) (by simp [Value.oneCell']) (by unfold maxLen; omega) (by omega) (by simp; omega) ?_; intro v' wz hown' hgrow _) | fail)
        obtain ⟨g', cap', rfl, hg1, hg2⟩ := hown'.form (by omega)
        have hbz := below_app hrow3 (by omega) hgrow
        have hrowz : wz.ownsRow (w.heap.size + 1 + 1 + 1) 61 2 (.slice (some ⟨g', 0, none⟩) (k + 1) cap') (k + 1) (rowP ((dayLs pl R S).take (k + 1))) := by
          rw [dayLs_take k hlt, rowP_snoc, hrt.out, ← hL.out]; exact hown'
        have hAz := hA3.below hbz (by omega)
        have hXz := hX3.below hbz (by omega)
        have hBz := hBw3.trans (hbz.mono (by omega))
        have hzz : w.heap.size + 1 + 1 + 1 ≤ wz.heap.size := by have := hbz.size; omega
        clear hown' hgrow hbz hrow3 hA3 hX3 hBw3
        go_roundw
        case rel => exact ⟨k + 1, by omega, by go_num, hAz, hrowz, hXz, hBz, hzz⟩
        case measure => simp [intOf]; omega

    · have hn0 : 0 < (reach pl r.place).length := List.length_pos_iff.2 hne
      obtain ⟨n, hn⟩ : ∃ n : Nat, (reach pl r.place).length = n := ⟨_, rfl⟩
      obtain ⟨A, hAd⟩ : ∃ A : List Int, Hid (A = (reach pl r.place).map (dayN pl R S k)) := ⟨_, rfl⟩
      obtain ⟨L, hL⟩ : ∃ L : Int, Hid (L = litN pl R S k) := ⟨_, rfl⟩
      obtain ⟨m0, hm0⟩ : ∃ m0 : Int, Hid (leastI r.rate A = m0) := ⟨_, rfl⟩
      have hLm : L = max 0 m0 := by rw [hL.out, litN_max (by rw [hrc.out]; exact hne), ← hm0.out, hAd.out, hrr.out, hrc.out]
      have e1 : max 0 m0 = L := hLm.symm
      have e2 : (if m0 < 0 then 0 else m0) = L := by rw [hLm]; split <;> omega
      have e3 : (if (0 : Int) < m0 then m0 else 0) = L := by rw [hLm]; split <;> omega
      have hLn := Lib.hid hLm
      have hne := Lib.hid hne
      have hnp := Lib.hid hn
      have hAl : Hid (A.length = n) := by show _ = _; rw [hAd.out, List.length_map]; exact hn
      have hnl : n ≤ 1000000 := by have := rcR_len (pl := pl) (R := R) k; rw [hrc.out] at this; omega
      rw [hn] at hn0
      have hn1 : (0 : Int) < (n : Int) := by omega
      obtain ⟨M2, hM2, hmk2⟩ := make_row0 (P := Try.prog) 29 3 i0 _ 1 Try.underlying29 hi hz0 hz1 n (by rw [hz2]; omega) (by unfold maxLen; omega)
      have HM2 := Lib.hid hM2
      have K1b : Hid (∀ (wx : World), PlacesAt wx B X.P pl → B ≤ wx.heap.size → Calls Try.prog 22 #[.agg #[.string X.nm, .slice X.a1 X.l1 X.c1, .int .i64 X.cl, .slice X.P pl.length X.cP, .slice X.a4 X.l4 X.c4, .slice X.a5 X.l5 X.c5, .slice X.a6 X.l6 X.c6, .slice X.a7 X.l7 X.c7, .slice X.a8 X.l8 X.c8, .slice X.a9 X.l9 X.c9, .int .i64 X.er], .int .i64 r.place] wx fun e w' => ∃ E ee, e = .returned (.slice E n ee) ∧ IntsAt w' w'.heap.size E (natsI (reach pl r.place)) ∧ (∀ a, E = some a → wx.heap.size ≤ a.block) ∧ Below wx.heap.size wx w') := fun wx h1 h2 => (K1.out r.place wx h1 h2).mono fun e w' ⟨E, ee, he, h3, h4, hb⟩ => ⟨E, ee, by rw [he, hnp.out], h3, h4, hb⟩
      have K2b : Hid (∀ (C : Option Addr) (cc : Nat) (wx : World), IntsAt wx wx.heap.size C A → Calls Try.prog 23 #[.int .i64 r.rate, .slice C A.length cc] wx fun e w' => e = .returned (.int .i64 m0) ∧ wx = w') := fun C cc wx h => (K2.out r.rate C cc A wx h (by rw [hAl.out]; omega)).mono fun e w' ⟨he, hw⟩ => ⟨by rw [he, hm0.out], hw⟩
      have kA := Lib.hid hA
      have kX := Lib.hid hX
      clear hA hX K2 K1 hLm hn hM2
      go_wp2_with (first | (go_at_call 22; ((with_reducible refine (K1b.out _ (HP.out.below ((hBw.alloc (by omega) _).mono hB)) (by simp; omega)).mono ?_); rintro e1 w3 ⟨E, ee, rfl, hI, hFr, hb1⟩; have kc := (bcell hb1).1)) | fail)
      clear hmk2
      obtain ⟨b2, off2, rfl, hbr, hbr2, hLi⟩ := list_of hne.out hI hFr
      have hbr3 : wr.heap.size + 1 ≤ b2 := by simpa using hbr
      have hb9 : Below wr.heap.size wr w3 := ((Below.refl _ _).alloc (Nat.le_refl _) _).trans (hb1.mono (by simp))
      have hz9 : wr.heap.size + 1 ≤ w3.heap.size := by have := hb1.size; simpa using this
      have q0 : w3.cell? ⟨wr.heap.size, 0, none⟩ = some (.int .i64 r.id) := by go_simp
      have q4 : w3.cell? ⟨wr.heap.size, 4, none⟩ = some (.int .i64 r.rate) := by go_simp
      have hA3 := kA.out.below hb9 (by omega)
      have hX3 := kX.out.below hb9 (by omega)
      have hrow3 := row_below hrow hb9
      have hBw3 := hBw.trans (hb9.mono (by omega))
      clear hbr hI hFr hb1 kc hb9 hrow kA kX
      obtain ⟨wo, rfl⟩ : ∃ wo, wo = wr := ⟨_, rfl⟩
      go_loopw [14, 43] (fun tv i wy => ∃ j : Nat, j ≤ n ∧ i = .int .i64 j ∧ wy.ownsRow w3.heap.size 3 1 tv j ((A.take j).map (Value.int .i64)) ∧ Below w3.heap.size w3 wy ∧ w3.heap.size + 1 ≤ wy.heap.size) (fun _ i _ => n - (intOf i).toNat)
      case atStart =>
        refine ⟨0, Nat.zero_le _, rfl, ?_, (Below.refl _ _).alloc (Nat.le_refl _) _, by simp⟩
        exact World.ownsRow_made w3 M2 n (by omega) (by unfold maxLen; omega) HM2.out
      case round =>
        obtain ⟨j, hj, rfl, hth, hBy, hzy⟩ := hrel
        by_cases hjl : j < n
        · obtain ⟨q, hq⟩ : ∃ q, (reach pl r.place)[j]? = some q := ⟨_, List.getElem?_eq_getElem (by rw [hnp.out]; exact hjl)⟩
          have hqn : q < pl.length := reach_lt (List.mem_of_getElem? hq)
          obtain ⟨V, hV⟩ : ∃ V, V = dayN pl R S k q := ⟨_, rfl⟩
          have hAj : A[j]? = some V := by rw [hAd.out, List.getElem?_map, hq, hV]; rfl
          have hsn : Hid (A.take (j + 1) = A.take j ++ [V]) := by show _ = _; rw [List.take_add_one, hAj]; rfl
          have c1 := (hBy.cell (p := ⟨b2, off2 + j, none⟩) (by show b2 < _; omega)).trans (hLi j q hq)
          obtain ⟨a0, f0⟩ := (hA3.below hBy (by omega)) q hqn
          unfold dayV at a0
          rw [← hV] at a0
          clear hq hAj hV
          go_wp2_with (first | (at_builtin; refine wpList_append_own _ rfl _ _ 29 rfl w3.heap.size 3 i0 _ 1 8 Try.underlying29 hi hz0 hz1 hz2 rfl (by decide) _ j _ rfl (hth.alloc _) ⟨wr.heap.size, 0, none⟩ 1 1 [.int .i64 V] rfl rfl (cell_one_at (by simp) _ _) (by simp [Value.oneCell']) (by unfold maxLen; omega) (by omega) (by simp; omega) ?_; intro v' wz hown' hgrow _) | fail)
          have hbz := below_app hth (by omega) hgrow
          obtain ⟨g', cap', rfl, hg1, hg2⟩ := hown'.form (by omega)
          have hzz : w3.heap.size + 1 ≤ wz.heap.size := by have := hbz.size; omega
          have hBz := hBy.trans hbz
          clear hgrow hbz hth hBy
          go_roundw
          case rel => exact ⟨j + 1, by omega, by go_num, by rw [hsn.out, List.map_append]; exact hown', hBz, hzz⟩
          case measure => simp [intOf]; omega
        · obtain rfl : n = j := by omega
          have hth2 := hth
          rw [← hAl.out, List.take_length] at hth2
          obtain ⟨C2, cc2, he2, hI2⟩ := ints_of_owns hth2
          have hA4 := hA3.below hBy (by omega)
          have hX4 := hX3.below hBy (by omega)
          have hrow4 := row_below hrow3 hBy
          have hBw4 := hBw3.trans (hBy.mono (by omega))
          have hL4 := hLi.below hBy (by omega)
          have q40 := (hBy.cell (p := ⟨wo.heap.size, 0, none⟩) (by show wo.heap.size < _; omega)).trans q0
          have q44 := (hBy.cell (p := ⟨wo.heap.size, 4, none⟩) (by show wo.heap.size < _; omega)).trans q4
          have hz4 : w.heap.size + 1 + 1 + 1 ≤ wr.heap.size := by omega
          have hI3 := Lib.hid hI2
          have hAd2 := Lib.hid hAd
          clear hAd hI2
          subst he2
          go_wp2_with (first | (go_at_call 23; ((with_reducible refine (K2b.out _ _ _ hI3.out).mono ?_); rintro e2 w5 ⟨rfl, rfl⟩)) | fail)
          clear hth hth2 hI3 q44 q4 q0 hA3 hX3 hrow3 hBw3 hLi
          have hzo : w.heap.size + 1 + 1 + 1 ≤ wo.heap.size := by omega
          obtain ⟨wm, rfl⟩ : ∃ wm, wm = wr := ⟨_, rfl⟩
          go_loopw [62] (fun i wr => ∃ j : Nat, j ≤ n ∧ i = .int .i64 j ∧ Arr wr (w.heap.size + 1 + 1) pl.length (dayM pl R S k ((reach pl r.place).take j)) ∧ wr.ownsRow (w.heap.size + 1 + 1 + 1) 61 2 u9 k (rowP ((dayLs pl R S).take k)) ∧ BoxB wr w.heap.size X pl ∧ Below w.heap.size w wr ∧ w.heap.size + 1 + 1 + 1 ≤ wr.heap.size ∧ ListAt wr b2 off2 (reach pl r.place) ∧ wr.cell? ⟨wo.heap.size, 0, none⟩ = some (.int .i64 r.id) ∧ wo.heap.size < wr.heap.size) (fun i _ => n - (intOf i).toNat)
          case atStart =>
            refine ⟨0, Nat.zero_le _, rfl, ?_, hrow4, hX4, hBw4, hz4, hL4, q40, by omega⟩
            rw [List.take_zero, dayM_nil]; exact hA4
          case round =>
            clear hA4 hX4 hrow4 hBw4 hL4 q40 hBy
            obtain ⟨j, hj, rfl, hA5, hrow5, hX5, hBw5, hz5, hL5, q5, hzo5⟩ := hrel
            by_cases hjl : j < n
            · obtain ⟨q, hq⟩ : ∃ q, (reach pl r.place)[j]? = some q := ⟨_, List.getElem?_eq_getElem (by rw [hnp.out]; exact hjl)⟩
              have hqn : q < pl.length := reach_lt (List.mem_of_getElem? hq)
              have hqt := take_new (reach_nodup pl r.place) hq
              have c1 := hL5 j q hq
              obtain ⟨a0, f0⟩ := hA5 q hqn
              rw [dayM_new hqt] at a0
              have hV := dayN_in (pl := pl) (R := R) HS.out k q
              have hle := litN_le (pl := pl) (R := R) HS.out (n := k) (q := q) (by rw [hrc.out]; exact List.mem_of_getElem? hq)
              rw [← hL.out] at hle
              have hAn : Arr (wr.setCell ⟨w.heap.size + 1 + 1, q, none⟩ (.int .i64 (dayN pl R S k q - L))) (w.heap.size + 1 + 1) pl.length (dayM pl R S k ((reach pl r.place).take (j + 1))) := by
                rw [take_snoc hq, hL.out]
                exact (hA5.set hqn _).congr (fun i _ => dayM_snoc pl R S k _ q i)
              obtain ⟨V, hVE⟩ : ∃ V, V = dayN pl R S k q := ⟨_, rfl⟩
              rw [← hVE] at hV a0 hAn hle
              clear hqt hq hVE
              go_wp2_with fail
              go_roundw
              case rel => exact ⟨j + 1, by omega, by go_num, hAn, row_store hrow5 (by show w.heap.size + 1 + 1 < _; omega) _, hX5.below (B := w.heap.size + 1) ((Below.refl _ _).setCell (p := ⟨w.heap.size + 1 + 1, q, none⟩) (by show w.heap.size + 1 ≤ w.heap.size + 1 + 1; omega) _) (by omega), hBw5.setCell (p := ⟨w.heap.size + 1 + 1, q, none⟩) (by show w.heap.size ≤ w.heap.size + 1 + 1; omega) _, by simpa using hz5, hL5.far (p := ⟨w.heap.size + 1 + 1, q, none⟩) (by show b2 ≠ w.heap.size + 1 + 1; omega) _, (World.cell?_setCell_other _ _ _ _ (fun e => by injection e with e1 _; omega)).trans q5, by simpa using hzo5⟩
              case measure => simp [intOf]; omega
            · obtain rfl : n = j := by omega
              have hA3 : Arr wr (w.heap.size + 1 + 1) pl.length (dayV pl R S (k + 1)) := by
                rw [← dayM_all, hrc.out]
                have := hA5
                rw [← hnp.out, List.take_length] at this
                exact this
              have hrow3 := hrow5
              have hX3 := hX5
              have hBw3 := hBw5
              clear hA5 hrow5 hX5 hBw5 hL5

              go_wp2_with (first | (at_builtin; refine wpList_append_own _ rfl _ _ 37 rfl (w.heap.size + 1 + 1 + 1) 61 g0 _ 2 16 Try.underlying37 gi gz0 gz1 gz2 rfl (by decide) _ k _ rfl (hrow3.alloc _) ⟨wr.heap.size, 0, none⟩ 1 1 [.int .i64 r.id, .int .i64 L] rfl rfl (cell_two_at (by simp) _ _ _) (by simp [Value.oneCell']) (by unfold maxLen; omega) (by omega) (by simp; omega) ?_; intro v' wz hown' hgrow _) | fail)
              obtain ⟨g', cap', rfl, hg1, hg2⟩ := hown'.form (by omega)
              have hbz := below_app hrow3 (by omega) hgrow
              have hrowz : wz.ownsRow (w.heap.size + 1 + 1 + 1) 61 2 (.slice (some ⟨g', 0, none⟩) (k + 1) cap') (k + 1) (rowP ((dayLs pl R S).take (k + 1))) := by
                rw [dayLs_take k hlt, rowP_snoc, hrt.out, ← hL.out]; exact hown'
              have hAz := hA3.below hbz (by omega)
              have hXz := hX3.below hbz (by omega)
              have hBz := hBw3.trans (hbz.mono (by omega))
              have hzz : w.heap.size + 1 + 1 + 1 ≤ wz.heap.size := by have := hbz.size; omega
              clear hown' hgrow hbz hrow3 hA3 hX3 hBw3
              go_roundw
              case rel => exact ⟨k + 1, by omega, by go_num, hAz, hrowz, hXz, hBz, hzz⟩
              case measure => simp [intOf]; omega

end Go.Proofs.Ythoigjkelinjhaa

