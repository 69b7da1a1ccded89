/- The walk of the closure of Ways. -/
import Derived.Test.YtphebdmdbnpokaaR4
set_option linter.unusedSimpArgs false
set_option linter.unusedVariables false
namespace Go.Proofs.Ytphebdmdbnpokaa
open Go.RowKit RD
attribute [local go_sem] alloc_drewN setCell_drewN shape_drewN
theorem leadB_no {N P : Nat} {VS : Vs} {A : Nat → Int} {r : Rd} (h : ¬ Leads N P VS A r) : leadB N P VS A r = false := by
  cases e : leadB N P VS A r
  · rfl
  · exact absurd ((leadB_iff N P VS A).1 e) h
def LeadIs (N P : Nat) (VS : Vs) (A : Nat → Int) (r : Rd) (w : World) (e : Ending) (w' : World) : Prop := e = .returned (.bool (leadB N P VS A r)) ∧ Below w.heap.size w w'
set_option maxRecDepth 100000 in
set_option maxHeartbeats 8000000 in
theorem leads_any (X : Bs) (r : Rd) (C : Option Addr) (c : Nat) (L : List Vl) (A : Nat → Int) (N b3 b8 b5 M : Nat) (w : World) (hN : N = X.N) (h3 : Box w b3 #[.string X.nm, .slice X.a1 X.l1 X.c1, .int .i64 X.cl, .slice X.a3 X.l3 X.c3, .slice X.a4 X.l4 X.c4, .slice X.a5 X.T.length X.c5, .slice X.a6 X.l6 X.c6, .slice X.a7 X.R.length X.c7, .slice X.a8 X.S.length X.c8, .slice X.a9 X.l9 X.c9, .int .i64 X.er] 31) (h8 : Box w b8 #[.slice (some ⟨M, 0, none⟩) N N] 29) (h5 : Box w b5 #[.slice C L.length c] 32)
    (hA : ∀ v, v < N → w.cell? ⟨M, v, none⟩ = some (.int .i64 (A v))) (hMz : M < w.heap.size) (hAb : ∀ v, A v ≤ 100000) (hV : VlsAt w w.heap.size C L) (hl : BsLen X) (hL : L.length ≤ 1000) (hNb : N ≤ 100) :
    Calls Try.prog 21 #[.agg #[.string r.nm, .int .i64 r.frm, .int .i64 r.to_, .int .i64 r.hours, .int .i64 r.flow, .int .i64 r.by_, .int .i64 r.limit], .pointer (some ⟨b3, 0, none⟩), .pointer (some ⟨b8, 0, none⟩), .pointer (some ⟨b5, 0, none⟩)] w (LeadIs N X.l3 (vsOf L) A r w) := by
  have K1 := Lib.hid (fun wx => usable_any X r wx hl)
  unfold UsIs at K1
  rw [← hN] at K1
  have z3 := h3.lt
  have z8 := h8.lt
  have z5 := h5.lt
  obtain ⟨x0, x1, x2, x3, x4, x5, x6, x7, x8, x9, x10⟩ := h3.bas
  have y8 : w.cell? ⟨b8, 0, none⟩ = some (.slice (some ⟨M, 0, none⟩) N N) := h8.cell rfl
  have y5 : w.cell? ⟨b5, 0, none⟩ = some (.slice C L.length c) := h5.cell rfl
  cases hu : usableB N X.l3 r
  · have HE := Lib.hid (leadB_no (VS := vsOf L) (A := A) (fun q : Leads N X.l3 (vsOf L) A r => by rw [q.1] at hu; cases hu))
    rw [hu] at K1
    clear hu hA hAb hV hl h3 h8 h5 hN
    go_enter Try.func21, Try.ntmps21
    go_wp2_with (first | (go_at_call 22; (with_reducible refine (K1.out _).mono ?_); rintro e1 w1 ⟨rfl, hb1⟩) | fail)
    go_ret
    exact ⟨ret_bool HE.out.symm, ((Below.refl _ _).alloc (Nat.le_refl _) _).trans (hb1.mono (by simp))⟩
  rw [hu] at K1
  obtain ⟨u1, u2, u3, u4, u5, u6, u7, u8⟩ := usable_iff.1 hu
  obtain ⟨a, ha⟩ : ∃ a, A r.frm.toNat = a := ⟨_, rfl⟩
  obtain ⟨b, hb⟩ : ∃ b, A r.to_.toNat = b := ⟨_, rfl⟩
  have p1 := hA r.frm.toNat (by omega)
  have p2 := hA r.to_.toNat (by omega)
  rw [ha] at p1
  rw [hb] at p2
  have Hu := Lib.hid hu
  have HAB := Lib.hid (And.intro ha hb)
  by_cases ha0 : a < 0
  · have HE := Lib.hid (leadB_no (VS := vsOf L) (A := A) (fun q : Leads N X.l3 (vsOf L) A r => by obtain ⟨_, x, y, t, q1, _⟩ := q; rw [ha] at q1; omega))
    clear hu hA hAb hV hl h3 h8 h5 hN ha hb p2
    go_enter Try.func21, Try.ntmps21
    go_wp2_with (first | (go_at_call 22; (with_reducible refine (K1.out _).mono ?_); rintro e1 w1 ⟨rfl, hb1⟩; have hb2 : Below w.heap.size w w1 := ((Below.refl _ _).alloc (Nat.le_refl _) _).trans (hb1.mono (by simp)); obtain ⟨hc2, _⟩ := bcell hb2; have hr1 := (Box.new w (roadC r).toArray 56).below hb1 (by simp); obtain ⟨r0, r1, r2, r3, r4, r5, r6⟩ := hr1.road; clear hr1; replace hb2 := Lib.hid hb2) | fail)
    go_ret
    exact ⟨ret_bool HE.out.symm, hb2.out⟩
  by_cases hb0 : b < 0
  · have HE := Lib.hid (leadB_no (VS := vsOf L) (A := A) (fun q : Leads N X.l3 (vsOf L) A r => by obtain ⟨_, x, y, t, q1, q2, _⟩ := q; rw [hb] at q2; omega))
    clear hu hA hAb hV hl h3 h8 h5 hN ha hb
    go_enter Try.func21, Try.ntmps21
    go_wp2_with (first | (go_at_call 22; (with_reducible refine (K1.out _).mono ?_); rintro e1 w1 ⟨rfl, hb1⟩; have hb2 : Below w.heap.size w w1 := ((Below.refl _ _).alloc (Nat.le_refl _) _).trans (hb1.mono (by simp)); obtain ⟨hc2, _⟩ := bcell hb2; have hr1 := (Box.new w (roadC r).toArray 56).below hb1 (by simp); obtain ⟨r0, r1, r2, r3, r4, r5, r6⟩ := hr1.road; replace hr1 := Lib.hid hr1; replace hb2 := Lib.hid hb2) | fail)
    go_ret
    exact ⟨ret_bool HE.out.symm, hb2.out⟩
  obtain ⟨n, rfl⟩ := Int.eq_ofNat_of_zero_le (show 0 ≤ a by omega)
  obtain ⟨m, rfl⟩ := Int.eq_ofNat_of_zero_le (show 0 ≤ b by omega)
  have hnb : n ≤ 100000 := by have := hAb r.frm.toNat; omega
  have hmb : m ≤ 100000 := by have := hAb r.to_.toNat; omega
  have KDep := Lib.hid (fun (wx : World) (h : Below w.heap.size w wx) => departure_any r C c L n wx ((hV.below h).more h.size) (by omega) (by omega) u5 u6 u7)
  have HX := Lib.hid (And.intro h3 (And.intro h8 h5))
  by_cases hs : ∃ s, IsLeave (vsOf L) r n s
  · obtain ⟨s, hs⟩ := hs
    have KD : Hid (∀ wx, Below w.heap.size w wx → Calls Try.prog 23 #[.agg #[.string r.nm, .int .i64 r.frm, .int .i64 r.to_, .int .i64 r.hours, .int .i64 r.flow, .int .i64 r.by_, .int .i64 r.limit], .slice C L.length c, .int .i64 n] wx fun e w' => e = .returned (.tuple #[.int .i64 s, .bool true]) ∧ Below wx.heap.size wx w') := Lib.hid fun wx h => (KDep.out wx h).mono fun e w' ⟨hb, h⟩ => by
      rcases h with ⟨s', h1, h2⟩ | ⟨h1, h2⟩
      · rw [hs.uniq h1]; exact ⟨h2, hb⟩
      · exact absurd hs.2.1 (h1 s hs.1)
    have hsb := hs.bound
    rw [vsOf_len] at hsb
    have hsb2 : s ≤ 200000 := by omega
    have hw1 : IntKind.i64.wrap ((m : Int) - r.hours) = (m : Int) - r.hours := by rw [IntKind.wrap_i64]; omega
    obtain ⟨q, hq⟩ : ∃ q : Bool, decide ((s : Int) = (m : Int) - r.hours) = q := ⟨_, rfl⟩
    have hq1 : ((s : Int) == (m : Int) - r.hours) = q := by rw [← hq]; rfl
    have hlead : leadB N X.l3 (vsOf L) A r = q := by
      by_cases e : s + r.hours.toNat = m
      · rw [(leadB_iff N X.l3 (vsOf L) A).2 ⟨Hu.out, n, m, s, ha, hb, hs, e⟩, ← hq, decide_eq_true (by omega)]
      · rw [leadB_no, ← hq, decide_eq_false (by omega)]
        rintro ⟨_, x, y, t, q1, q2, q3, q4⟩
        rw [ha] at q1; rw [hb] at q2
        obtain rfl : n = x := by omega
        obtain rfl := q3.uniq hs
        omega
    have HE := Lib.hid hlead
    clear hu hA hAb hV hl h3 h8 h5 hN ha hb hs hlead hq hsb
    go_enter Try.func21, Try.ntmps21
    go_wp2_with (first | (go_at_call 22; (with_reducible refine (K1.out _).mono ?_); rintro e1 w1 ⟨rfl, hb1⟩; have hb2 : Below w.heap.size w w1 := ((Below.refl _ _).alloc (Nat.le_refl _) _).trans (hb1.mono (by simp)); obtain ⟨hc2, _⟩ := bcell hb2; have hr1 := (Box.new w (roadC r).toArray 56).below hb1 (by simp); obtain ⟨r0, r1, r2, r3, r4, r5, r6⟩ := hr1.road; replace hr1 := Lib.hid hr1; replace hb2 := Lib.hid hb2) | fail)
    have hwz := hb2.out.size
    have hrz := hr1.out.lt
    have g3 : w1.cell? ⟨b3, 0, none⟩ = w.cell? ⟨b3, 0, none⟩ := hc2 b3 0 z3
    have e8 := (hc2 b8 0 z8).trans y8
    have e5 := (hc2 b5 0 z5).trans y5
    have e1 := (hc2 M r.frm.toNat hMz).trans p1
    have e2 := (hc2 M r.to_.toNat hMz).trans p2
    have z8' : b8 < w1.heap.size := by omega
    have z5' : b5 < w1.heap.size := by omega
    have zM' : M < w1.heap.size := by omega
    clear hc2 g3 x0 x1 x2 x3 x4 x5 x6 x7 x8 x9 x10 y8 y5 p1 p2
    refine Plan.wp_region_below 12 [(0, true), (1, true), (2, true), (3, true), (4, true), (5, true), (6, true), (7, false), (8, true), (9, true), (10, true), (11, true), (12, false)] (by kernel_rfl) (by kernel_rfl) ?_
    (repeat (first | (refine Plan.plan_read (v := ?_) rfl rfl ?_ ?_; rotate_left; (focus ((intro wS hSw; have hkS := (bcell hSw).1; try (have hkT := fun (b o : Nat) (h : b < w.heap.size) => hkS b o (by first | omega | (simp; omega) | (simp; done))); go_simp); try with_reducible rfl)); simp only [Act.put, List.setIfInBounds_toArray, List.set_cons_zero, List.set_cons_succ]) | (refine Plan.plan_skip rfl rfl ?_; simp only [Act.put, List.setIfInBounds_toArray, List.set_cons_zero, List.set_cons_succ])))
    refine Plan.plan_write rfl (fun K hK => ?_)
    go_simp
    go_at_call 23
    (with_reducible refine (KD.out _ hb2.out.drew).mono ?_)
    rintro e4 w4 ⟨rfl, hb4⟩
    have kB := Plan.below_drew_go hb4
    refine hK.out _ _ kB ?_
    clear hK K
    try simp only [Act.put, List.setIfInBounds_toArray, List.set_cons_zero, List.set_cons_succ]
    (repeat (first | (refine Plan.plan_read (v := ?_) rfl rfl ?_ ?_; rotate_left; (focus ((intro wS hSw; have hkS := (bcell hSw).1; try (have hkT := fun (b o : Nat) (h : b < w.heap.size) => hkS b o (by first | omega | (simp; omega) | (simp; done))); go_simp); try with_reducible rfl)); simp only [Act.put, List.setIfInBounds_toArray, List.set_cons_zero, List.set_cons_succ]) | (refine Plan.plan_skip rfl rfl ?_; simp only [Act.put, List.setIfInBounds_toArray, List.set_cons_zero, List.set_cons_succ])))
    refine Plan.plan_last rfl (fun K hK => ?_)
    go_simp
    refine hK.out _ _ ?_
    clear hK K
    try simp only [Act.put, List.setIfInBounds_toArray, List.set_cons_zero, List.set_cons_succ]
    have hz4 := kB.size
    obtain ⟨hc4, _⟩ := bcell kB
    have hr4 := hr1.out.below kB hrz
    obtain ⟨s0, s1, s2, s3, s4, s5, s6⟩ := hr4.road
    have f8 := (hc4 b8 0 z8').trans e8
    have f2 := (hc4 M r.to_.toNat zM').trans e2
    have z8'' : b8 < w4.heap.size := by omega
    have zM'' : M < w4.heap.size := by omega
    have hrz4 : w.heap.size < w4.heap.size := by omega
    have hB4 : Below w.heap.size w w4 := hb2.out.trans (kB.mono (by omega))
    replace hB4 := Lib.hid hB4
    clear hc4 hr4 e8 e5 e1 e2 r0 r1 r2 r3 r4 r5 r6 hb4 kB
    go_wp2_with fail
    refine Plan.wp_region_below 13 [(0, true), (1, true), (2, true), (3, true), (4, true), (5, true), (6, true), (7, true), (8, true), (9, true), (10, true), (11, true), (12, true), (13, false)] (by kernel_rfl) (by kernel_rfl) ?_
    (repeat (first | (refine Plan.plan_read (v := ?_) rfl rfl ?_ ?_; rotate_left; (focus ((intro wS hSw; have hkS := (bcell hSw).1; try (have hkT := fun (b o : Nat) (h : b < w.heap.size) => hkS b o (by first | omega | (simp; omega) | (simp; done))); go_simp); try with_reducible rfl)); simp only [Act.put, List.setIfInBounds_toArray, List.set_cons_zero, List.set_cons_succ]) | (refine Plan.plan_skip rfl rfl ?_; simp only [Act.put, List.setIfInBounds_toArray, List.set_cons_zero, List.set_cons_succ])))
    refine Plan.plan_last rfl (fun K hK => ?_)
    go_simp
    refine hK.out _ _ ?_
    clear hK K
    try simp only [Act.put, List.setIfInBounds_toArray, List.set_cons_zero, List.set_cons_succ]
    go_wp2_with fail
    go_ret
    exact ⟨ret_bool HE.out.symm, hB4.out.drew⟩
  · have KD : Hid (∀ wx, Below w.heap.size w wx → Calls Try.prog 23 #[.agg #[.string r.nm, .int .i64 r.frm, .int .i64 r.to_, .int .i64 r.hours, .int .i64 r.flow, .int .i64 r.by_, .int .i64 r.limit], .slice C L.length c, .int .i64 n] wx fun e w' => e = .returned (.tuple #[.int .i64 0, .bool false]) ∧ Below wx.heap.size wx w') := Lib.hid fun wx h => (KDep.out wx h).mono fun e w' ⟨hb, h⟩ => by
      rcases h with ⟨s', h1, h2⟩ | ⟨h1, h2⟩
      · exact absurd ⟨s', h1⟩ hs
      · exact ⟨h2, hb⟩
    have HE := Lib.hid (leadB_no (VS := vsOf L) (A := A) (fun q : Leads N X.l3 (vsOf L) A r => by
      obtain ⟨_, x, y, t, q1, q2, q3, q4⟩ := q
      rw [ha] at q1
      obtain rfl : n = x := by omega
      exact hs ⟨t, q3⟩))
    clear hu hA hAb hV hl h3 h8 h5 hN ha hb hs
    go_enter Try.func21, Try.ntmps21
    go_wp2_with (first | (go_at_call 22; (with_reducible refine (K1.out _).mono ?_); rintro e1 w1 ⟨rfl, hb1⟩; have hb2 : Below w.heap.size w w1 := ((Below.refl _ _).alloc (Nat.le_refl _) _).trans (hb1.mono (by simp)); obtain ⟨hc2, _⟩ := bcell hb2; have hr1 := (Box.new w (roadC r).toArray 56).below hb1 (by simp); obtain ⟨r0, r1, r2, r3, r4, r5, r6⟩ := hr1.road; replace hr1 := Lib.hid hr1; replace hb2 := Lib.hid hb2) | fail)
    have hwz := hb2.out.size
    have hrz := hr1.out.lt
    have g3 : w1.cell? ⟨b3, 0, none⟩ = w.cell? ⟨b3, 0, none⟩ := hc2 b3 0 z3
    have e8 := (hc2 b8 0 z8).trans y8
    have e5 := (hc2 b5 0 z5).trans y5
    have e1 := (hc2 M r.frm.toNat hMz).trans p1
    have e2 := (hc2 M r.to_.toNat hMz).trans p2
    have z8' : b8 < w1.heap.size := by omega
    have z5' : b5 < w1.heap.size := by omega
    have zM' : M < w1.heap.size := by omega
    clear hc2 g3 x0 x1 x2 x3 x4 x5 x6 x7 x8 x9 x10 y8 y5 p1 p2
    refine Plan.wp_region_below 12 [(0, true), (1, true), (2, true), (3, true), (4, true), (5, true), (6, true), (7, false), (8, true), (9, true), (10, true), (11, true), (12, false)] (by kernel_rfl) (by kernel_rfl) ?_
    (repeat (first | (refine Plan.plan_read (v := ?_) rfl rfl ?_ ?_; rotate_left; (focus ((intro wS hSw; have hkS := (bcell hSw).1; try (have hkT := fun (b o : Nat) (h : b < w.heap.size) => hkS b o (by first | omega | (simp; omega) | (simp; done))); go_simp); try with_reducible rfl)); simp only [Act.put, List.setIfInBounds_toArray, List.set_cons_zero, List.set_cons_succ]) | (refine Plan.plan_skip rfl rfl ?_; simp only [Act.put, List.setIfInBounds_toArray, List.set_cons_zero, List.set_cons_succ])))
    refine Plan.plan_write rfl (fun K hK => ?_)
    go_simp
    go_at_call 23
    (with_reducible refine (KD.out _ hb2.out.drew).mono ?_)
    rintro e4 w4 ⟨rfl, hb4⟩
    have kB := Plan.below_drew_go hb4
    refine hK.out _ _ kB ?_
    clear hK K
    try simp only [Act.put, List.setIfInBounds_toArray, List.set_cons_zero, List.set_cons_succ]
    (repeat (first | (refine Plan.plan_read (v := ?_) rfl rfl ?_ ?_; rotate_left; (focus ((intro wS hSw; have hkS := (bcell hSw).1; try (have hkT := fun (b o : Nat) (h : b < w.heap.size) => hkS b o (by first | omega | (simp; omega) | (simp; done))); go_simp); try with_reducible rfl)); simp only [Act.put, List.setIfInBounds_toArray, List.set_cons_zero, List.set_cons_succ]) | (refine Plan.plan_skip rfl rfl ?_; simp only [Act.put, List.setIfInBounds_toArray, List.set_cons_zero, List.set_cons_succ])))
    refine Plan.plan_last rfl (fun K hK => ?_)
    go_simp
    refine hK.out _ _ ?_
    clear hK K
    try simp only [Act.put, List.setIfInBounds_toArray, List.set_cons_zero, List.set_cons_succ]
    have hz4 := kB.size
    obtain ⟨hc4, _⟩ := bcell kB
    have hr4 := hr1.out.below kB hrz
    obtain ⟨s0, s1, s2, s3, s4, s5, s6⟩ := hr4.road
    have f8 := (hc4 b8 0 z8').trans e8
    have f2 := (hc4 M r.to_.toNat zM').trans e2
    have z8'' : b8 < w4.heap.size := by omega
    have zM'' : M < w4.heap.size := by omega
    have hrz4 : w.heap.size < w4.heap.size := by omega
    have hB4 : Below w.heap.size w w4 := hb2.out.trans (kB.mono (by omega))
    replace hB4 := Lib.hid hB4
    clear hc4 hr4 e8 e5 e1 e2 r0 r1 r2 r3 r4 r5 r6 hb4 kB
    go_wp2_with fail
    refine Plan.wp_region_below 13 [(0, true), (1, true), (2, true), (3, true), (4, true), (5, true), (6, true), (7, true), (8, true), (9, true), (10, true), (11, true), (12, true), (13, false)] (by kernel_rfl) (by kernel_rfl) ?_
    (repeat (first | (refine Plan.plan_read (v := ?_) rfl rfl ?_ ?_; rotate_left; (focus ((intro wS hSw; have hkS := (bcell hSw).1; try (have hkT := fun (b o : Nat) (h : b < w.heap.size) => hkS b o (by first | omega | (simp; omega) | (simp; done))); go_simp); try with_reducible rfl)); simp only [Act.put, List.setIfInBounds_toArray, List.set_cons_zero, List.set_cons_succ]) | (refine Plan.plan_skip rfl rfl ?_; simp only [Act.put, List.setIfInBounds_toArray, List.set_cons_zero, List.set_cons_succ])))
    refine Plan.plan_last rfl (fun K hK => ?_)
    go_simp
    refine hK.out _ _ ?_
    clear hK K
    try simp only [Act.put, List.setIfInBounds_toArray, List.set_cons_zero, List.set_cons_succ]
    go_wp2_with fail
    go_ret
    exact ⟨ret_bool HE.out.symm, hB4.out.drew⟩
end Go.Proofs.Ytphebdmdbnpokaa
