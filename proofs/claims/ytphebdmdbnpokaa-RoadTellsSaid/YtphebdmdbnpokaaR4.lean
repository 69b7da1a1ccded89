/- The walks of Open, limited, slices.Reverse. -/
import Derived.Test.YtphebdmdbnpokaaR3
import Derived.Test.YtphebdmdbnpokaaRF
set_option linter.unusedSimpArgs false
set_option linter.unusedVariables false
namespace Go.Proofs.Ytphebdmdbnpokaa
open Go.RowKit RD
attribute [local go_sem] alloc_drewN setCell_drewN shape_drewN
/-- Whether r is the index of an open road. -/
def openB (N P : Nat) (R : List Rd) (r : Int) (V : List Int) : Bool := decide (0 ≤ r) && match R[r.toNat]? with
  | some x => usableB N P x && passB x V
  | none => false
theorem openB_at {N P : Nat} {R : List Rd} {k : Nat} {x : Rd} {V : List Int} (h : R[k]? = some x) : openB N P R (k : Int) V = (usableB N P x && passB x V) := by
  unfold openB
  rw [Int.toNat_natCast, h]
  simp
theorem openB_neg {N P : Nat} {R : List Rd} {r : Int} {V : List Int} (h : r < 0) : openB N P R r V = false := by
  unfold openB
  rw [decide_eq_false (by omega)]; rfl
theorem openB_out {N P : Nat} {R : List Rd} {k : Nat} {V : List Int} (h : R.length ≤ k) : openB N P R (k : Int) V = false := by
  unfold openB
  rw [Int.toNat_natCast, List.getElem?_eq_none h]; simp
def OpenIs (X : Bs) (r : Int) (V : List Int) (w : World) (e : Ending) (w' : World) : Prop := e = .returned (.bool (openB X.N X.l3 X.R r V)) ∧ Below w.heap.size w w'
set_option maxRecDepth 100000 in
set_option maxHeartbeats 4000000 in
theorem open_no (X : Bs) (r : Int) (C : Option Addr) (c : Nat) (V : List Int) (w : World) (hR : X.R.length ≤ 9223372036854775807) (h : r < 0 ∨ (X.R.length : Int) ≤ r) :
    Calls Try.prog 14 #[.agg #[.string X.nm, .slice X.a1 X.l1 X.c1, .int .i64 X.cl, .slice X.a3 X.l3 X.c3, .slice X.a4 X.l4 X.c4, .slice X.a5 X.T.length X.c5, .slice X.a6 X.l6 X.c6, .slice X.a7 X.R.length X.c7, .slice X.a8 X.S.length X.c8, .slice X.a9 X.l9 X.c9, .int .i64 X.er], .int .i64 r, .slice C V.length c] w (OpenIs X r V w) := by
  rcases h with h | h
  · have HE := Lib.hid (openB_neg (N := X.N) (P := X.l3) (R := X.R) (V := V) h)
    have d1 : decide (0 ≤ r) = false := decide_eq_false (by omega)
    go_enter Try.func14, Try.ntmps14
    go_wp2_with fail
    refine Plan.wp_region_below 27 [(0, true), (1, true), (2, true), (3, true), (4, true), (5, true), (6, true), (7, true), (8, true), (9, true), (10, true), (11, true), (12, true), (13, true), (14, true), (15, true), (16, true), (17, true), (18, true), (19, true), (20, true), (21, true), (22, true), (23, true), (24, true), (25, true), (26, true), (27, false)] (by kernel_rfl) (by kernel_rfl) ?_
    (repeat (first | (refine Plan.plan_read (v := ?_) rfl rfl ?_ ?_; rotate_left; (focus ((intro wS hSw; have hkS := (bcell hSw).1; try (have hkT := fun (b o : Nat) (h : b < w.heap.size) => hkS b o (by first | omega | (simp; omega) | (simp; done))); go_simp); try with_reducible rfl)); simp only [Act.put, List.setIfInBounds_toArray, List.set_cons_zero, List.set_cons_succ]) | (refine Plan.plan_skip rfl rfl ?_; simp only [Act.put, List.setIfInBounds_toArray, List.set_cons_zero, List.set_cons_succ])))
    refine Plan.plan_last rfl (fun K hK => ?_)
    go_simp
    refine hK.out _ _ ?_
    clear hK K
    try simp only [Act.put, List.setIfInBounds_toArray, List.set_cons_zero, List.set_cons_succ]
    go_wp2_with fail
    go_ret
    exact ⟨ret_bool HE.out.symm, ((Below.refl _ _).alloc (Nat.le_refl _) _).drew⟩
  · obtain ⟨k, rfl⟩ := Int.eq_ofNat_of_zero_le (show 0 ≤ r by omega)
    have hk : X.R.length ≤ k := by omega
    have HE := Lib.hid (openB_out (N := X.N) (P := X.l3) (R := X.R) (V := V) hk)
    have d2 : decide (k < X.R.length) = false := decide_eq_false (by omega)
    have d3 : decide ((k : Int) < (X.R.length : Int)) = false := decide_eq_false (by omega)
    clear h hk
    go_enter Try.func14, Try.ntmps14
    go_wp2_with fail
    refine Plan.wp_region_below 27 [(0, true), (1, true), (2, true), (3, true), (4, true), (5, true), (6, true), (7, true), (8, true), (9, true), (10, true), (11, true), (12, true), (13, true), (14, true), (15, true), (16, true), (17, true), (18, true), (19, true), (20, true), (21, true), (22, true), (23, true), (24, true), (25, true), (26, true), (27, false)] (by kernel_rfl) (by kernel_rfl) ?_
    (repeat (first | (refine Plan.plan_read (v := ?_) rfl rfl ?_ ?_; rotate_left; (focus ((intro wS hSw; have hkS := (bcell hSw).1; try (have hkT := fun (b o : Nat) (h : b < w.heap.size) => hkS b o (by first | omega | (simp; omega) | (simp; done))); go_simp); try with_reducible rfl)); simp only [Act.put, List.setIfInBounds_toArray, List.set_cons_zero, List.set_cons_succ]) | (refine Plan.plan_skip rfl rfl ?_; simp only [Act.put, List.setIfInBounds_toArray, List.set_cons_zero, List.set_cons_succ])))
    refine Plan.plan_last rfl (fun K hK => ?_)
    go_simp
    refine hK.out _ _ ?_
    clear hK K
    try simp only [Act.put, List.setIfInBounds_toArray, List.set_cons_zero, List.set_cons_succ]
    go_wp2_with fail
    go_ret
    exact ⟨ret_bool HE.out.symm, ((Below.refl _ _).alloc (Nat.le_refl _) _).drew⟩
set_option maxRecDepth 100000 in
set_option maxHeartbeats 4000000 in
theorem open_yes (X : Bs) (k : Nat) (C : Option Addr) (c : Nat) (V : List Int) (w : World) (hX : RowAt roadC 7 w w.heap.size X.a7 X.R) (hV : IntsAt w w.heap.size C V) (hVl : V.length ≤ 9223372036854775807) (hl : BsLen X) (hk : k < X.R.length) :
    Calls Try.prog 14 #[.agg #[.string X.nm, .slice X.a1 X.l1 X.c1, .int .i64 X.cl, .slice X.a3 X.l3 X.c3, .slice X.a4 X.l4 X.c4, .slice X.a5 X.T.length X.c5, .slice X.a6 X.l6 X.c6, .slice X.a7 X.R.length X.c7, .slice X.a8 X.S.length X.c8, .slice X.a9 X.l9 X.c9, .int .i64 X.er], .int .i64 k, .slice C V.length c] w (OpenIs X k V w) := by
  obtain ⟨r, hr⟩ := road_cell hX hk
  obtain ⟨b, off, ea, hb, c0, c1, c2, c3, c4, c5, c6⟩ := road_at hX hr
  have hE := openB_at (N := X.N) (P := X.l3) (V := V) hr
  have K1 := Lib.hid (fun wx => usable_any X r wx hl)
  unfold UsIs at K1
  have d2 : decide (k < X.R.length) = true := decide_eq_true hk
  have hRb := hl.r
  have hwz : w.heap.size ≤ w.heap.size := Nat.le_refl _
  rw [ea] at K1 ⊢
  have HV := Lib.hid hV
  cases hu : usableB X.N X.l3 r
  · rw [hu] at hE K1
    have HE := Lib.hid hE
    clear hE hr ea hu hX hV hl
    go_enter Try.func14, Try.ntmps14
    go_wp2_with fail
    refine Plan.wp_region_below 27 [(0, true), (1, true), (2, true), (3, true), (4, true), (5, true), (6, true), (7, true), (8, true), (9, true), (10, true), (11, true), (12, true), (13, true), (14, true), (15, true), (16, false), (17, true), (18, true), (19, true), (20, true), (21, true), (22, true), (23, true), (24, true), (25, true), (26, true), (27, false)] (by kernel_rfl) (by kernel_rfl) ?_
    (repeat (first | (refine Plan.plan_read (v := ?_) rfl rfl ?_ ?_; rotate_left; (focus ((intro wS hSw; have hkS := (bcell hSw).1; try (have hkT := fun (b o : Nat) (h : b < w.heap.size) => hkS b o (by first | omega | (simp; omega) | (simp; done))); go_simp); try with_reducible rfl)); simp only [Act.put, List.setIfInBounds_toArray, List.set_cons_zero, List.set_cons_succ]) | (refine Plan.plan_skip rfl rfl ?_; simp only [Act.put, List.setIfInBounds_toArray, List.set_cons_zero, List.set_cons_succ])))
    refine Plan.plan_write rfl (fun K hK => ?_)
    go_simp
    go_at_call 22
    (with_reducible refine (K1.out _).mono ?_)
    rintro e1 w1 ⟨rfl, hb1⟩
    have kB := Plan.below_drew_go hb1
    refine hK.out _ _ kB ?_
    clear hK K
    try simp only [Act.put, List.setIfInBounds_toArray, List.set_cons_zero, List.set_cons_succ]
    (repeat (first | (refine Plan.plan_read (v := ?_) rfl rfl ?_ ?_; rotate_left; (focus ((intro wS hSw; have hkS := (bcell hSw).1; try (have hkT := fun (b o : Nat) (h : b < w.heap.size) => hkS b o (by first | omega | (simp; omega) | (simp; done))); go_simp); try with_reducible rfl)); simp only [Act.put, List.setIfInBounds_toArray, List.set_cons_zero, List.set_cons_succ]) | (refine Plan.plan_skip rfl rfl ?_; simp only [Act.put, List.setIfInBounds_toArray, List.set_cons_zero, List.set_cons_succ])))
    refine Plan.plan_last rfl (fun K hK => ?_)
    go_simp
    refine hK.out _ _ ?_
    clear hK K
    try simp only [Act.put, List.setIfInBounds_toArray, List.set_cons_zero, List.set_cons_succ]
    go_wp2_with fail
    go_ret
    exact ⟨ret_bool (by rw [HE.out]; rfl), ((Below.refl _ _).alloc (Nat.le_refl _) _).trans (kB.mono (by simp))⟩
  · rw [hu] at hE K1
    have HE := Lib.hid hE
    obtain ⟨u1, u2, u3, u4, u5, u6, u7, u8⟩ := usable_iff.1 hu
    have K2 := Lib.hid (fun (wx : World) (h : Below w.heap.size w wx) => passable_any r C c V wx (ints_more (ints_below hV h) h.size) hVl u7)
    clear hE hr ea hu hX hV hl u1 u2 u3 u4 u5 u6 u7 u8
    go_enter Try.func14, Try.ntmps14
    go_wp2_with fail
    refine Plan.wp_region_below 27 [(0, true), (1, true), (2, true), (3, true), (4, true), (5, true), (6, true), (7, true), (8, true), (9, true), (10, true), (11, true), (12, true), (13, true), (14, true), (15, true), (16, false), (17, true), (18, true), (19, true), (20, true), (21, true), (22, true), (23, true), (24, true), (25, false), (26, true), (27, false)] (by kernel_rfl) (by kernel_rfl) ?_
    (repeat (first | (refine Plan.plan_read (v := ?_) rfl rfl ?_ ?_; rotate_left; (focus ((intro wS hSw; have hkS := (bcell hSw).1; try (have hkT := fun (b o : Nat) (h : b < w.heap.size) => hkS b o (by first | omega | (simp; omega) | (simp; done))); go_simp); try with_reducible rfl)); simp only [Act.put, List.setIfInBounds_toArray, List.set_cons_zero, List.set_cons_succ]) | (refine Plan.plan_skip rfl rfl ?_; simp only [Act.put, List.setIfInBounds_toArray, List.set_cons_zero, List.set_cons_succ])))
    refine Plan.plan_write rfl (fun K hK => ?_)
    go_simp
    go_at_call 22
    (with_reducible refine (K1.out _).mono ?_)
    rintro e1 w1 ⟨rfl, hb1⟩
    have kB := Plan.below_drew_go hb1
    refine hK.out _ _ kB ?_
    clear hK K
    try simp only [Act.put, List.setIfInBounds_toArray, List.set_cons_zero, List.set_cons_succ]
    (repeat (first | (refine Plan.plan_read (v := ?_) rfl rfl ?_ ?_; rotate_left; (focus ((intro wS hSw; have hkS := (bcell hSw).1; try (have hkT := fun (b o : Nat) (h : b < w.heap.size) => hkS b o (by first | omega | (simp; omega) | (simp; done))); go_simp); try with_reducible rfl)); simp only [Act.put, List.setIfInBounds_toArray, List.set_cons_zero, List.set_cons_succ]) | (refine Plan.plan_skip rfl rfl ?_; simp only [Act.put, List.setIfInBounds_toArray, List.set_cons_zero, List.set_cons_succ])))
    have hw1 : Below w.heap.size w w1 := ((Below.refl _ _).alloc (Nat.le_refl _) _).trans (kB.mono (by simp))
    refine Plan.plan_write rfl (fun K hK => ?_)
    go_simp
    go_at_call 29
    (with_reducible refine (K2.out _ hw1).mono ?_)
    rintro e2 w2 ⟨rfl, hb2⟩
    have kB2 := Plan.below_go kB hb2
    refine hK.out _ _ kB2 ?_
    clear hK K
    try simp only [Act.put, List.setIfInBounds_toArray, List.set_cons_zero, List.set_cons_succ]
    (repeat (first | (refine Plan.plan_read (v := ?_) rfl rfl ?_ ?_; rotate_left; (focus ((intro wS hSw; have hkS := (bcell hSw).1; try (have hkT := fun (b o : Nat) (h : b < w.heap.size) => hkS b o (by first | omega | (simp; omega) | (simp; done))); go_simp); try with_reducible rfl)); simp only [Act.put, List.setIfInBounds_toArray, List.set_cons_zero, List.set_cons_succ]) | (refine Plan.plan_skip rfl rfl ?_; simp only [Act.put, List.setIfInBounds_toArray, List.set_cons_zero, List.set_cons_succ])))
    refine Plan.plan_last rfl (fun K hK => ?_)
    go_simp
    refine hK.out _ _ ?_
    clear hK K
    try simp only [Act.put, List.setIfInBounds_toArray, List.set_cons_zero, List.set_cons_succ]
    go_wp2_with fail
    go_ret
    exact ⟨ret_bool (by rw [HE.out]; rfl), ((Below.refl _ _).alloc (Nat.le_refl _) _).trans (kB2.mono (by simp))⟩
theorem open_any (X : Bs) (r : Int) (C : Option Addr) (c : Nat) (V : List Int) (w : World) (hX : RowAt roadC 7 w w.heap.size X.a7 X.R) (hV : IntsAt w w.heap.size C V) (hVl : V.length ≤ 9223372036854775807) (hl : BsLen X) :
    Calls Try.prog 14 #[.agg #[.string X.nm, .slice X.a1 X.l1 X.c1, .int .i64 X.cl, .slice X.a3 X.l3 X.c3, .slice X.a4 X.l4 X.c4, .slice X.a5 X.T.length X.c5, .slice X.a6 X.l6 X.c6, .slice X.a7 X.R.length X.c7, .slice X.a8 X.S.length X.c8, .slice X.a9 X.l9 X.c9, .int .i64 X.er], .int .i64 r, .slice C V.length c] w (OpenIs X r V w) := by
  by_cases h : r < 0 ∨ (X.R.length : Int) ≤ r
  · exact open_no X r C c V w (by have := hl.r; omega) h
  · obtain ⟨k, rfl⟩ := Int.eq_ofNat_of_zero_le (show 0 ≤ r by omega)
    exact open_yes X k C c V w hX hV hVl hl (by omega)
theorem limited_any (n : Int) (w : World) : Calls Try.prog 27 #[.int .i64 n] w fun e w' => e = .returned (.int .i64 (lim n)) ∧ w = w' := by
  obtain ⟨m, hm⟩ : ∃ m, max n 0 = m := ⟨_, rfl⟩
  obtain ⟨k, hk⟩ : ∃ k, min m 1073741824 = k := ⟨_, rfl⟩
  have h1 : (if n < 0 then 0 else n) = m := by split <;> omega
  have h2 : (if (1073741824 : Int) < m then 1073741824 else m) = k := by split <;> omega
  have hr : lim n = k := by unfold lim; rw [hm, hk]
  have HR := Lib.hid hr
  clear hr
  go_enter Try.func27, Try.ntmps27
  go_wp2_with fail
  go_ret
  exact ⟨ret_int (by rw [HR.out]), rfl⟩
/-- A row of integers, the other way round. -/
def revAt (l : List Int) (i k : Nat) : Int := if k < i ∨ l.length - i ≤ k then l.getD (l.length - 1 - k) 0 else l.getD k 0
def RevRow (w : World) (base : Nat) (o : Option Nat) (c n : Nat) (l : List Int) : Prop := w.ownsRow base 3 1 (.slice (ad o) n c) n (l.map (Value.int .i64))
theorem RevRow.get {w : World} {base : Nat} {o : Option Nat} {c n : Nat} {l : List Int} (h : RevRow w base o c n l) (hn : 0 < n) : ∃ g, o = some g ∧ base ≤ g ∧ g < w.heap.size ∧ ∀ k, k < n → w.cell? ⟨g, k, none⟩ = some (.int .i64 (l.getD k 0)) ∧ w.frozen? ⟨g, k, none⟩ = false := by
  obtain ⟨h1, ⟨e1, h0⟩ | ⟨g, cap, cur, e1, h2, h3, h4, h5, h6, h7⟩⟩ := h
  · omega
  · cases o with
    | none => simp [ad] at e1
    | some o =>
      simp [ad] at e1
      obtain ⟨rfl, rfl⟩ := e1
      refine ⟨o, rfl, h2, (Array.getElem?_eq_some_iff.1 h3).1, fun k hk => ⟨?_, by simp [World.frozen?, h3]⟩⟩
      rw [cell_of_row w o k cur _ (0, 0) h3]
      have hkl : k < l.length := by simp at h1; omega
      have : (l.map (Value.int .i64))[k]? = some (.int .i64 (l.getD k 0)) := by simp [List.getD_eq_getElem?_getD, hkl]
      rw [← h7, List.getElem?_take_of_lt (by omega)] at this
      simpa using this
theorem RevRow.set {w : World} {base g c n : Nat} {l : List Int} (h : RevRow w base (some g) c n l) (k : Nat) (x : Int) : RevRow (w.setCell ⟨g, k, none⟩ (.int .i64 x)) base (some g) c n (l.set k x) := by
  unfold RevRow
  rw [List.map_set]
  exact row_set h _
set_option maxRecDepth 100000 in
set_option maxHeartbeats 4000000 in
theorem reverse_any (base : Nat) (o : Option Nat) (c : Nat) (l : List Int) (w : World) (h : RevRow w base o c l.length l) (hl : l.length ≤ 1000000) :
    Calls Try.prog 24 #[.slice (ad o) l.length c] w fun e w' => e = .returned (.tuple #[]) ∧ RevRow w' base o c l.length l.reverse ∧ Kp (fun k => o = some k) w w' := by
  obtain ⟨n, hn⟩ : ∃ n, n = l.length := ⟨_, rfl⟩
  rw [← hn] at h hl ⊢
  have Hn := Lib.hid hn
  clear hn
  obtain ⟨A, hA⟩ : ∃ A, A = ad o := ⟨_, rfl⟩
  rw [← hA]
  have HA := Lib.hid hA
  clear hA
  go_enter Try.func24, Try.ntmps24
  go_wp2_with fail
  go_loopw [2, 3] (fun iv jv wr => ∃ (i : Nat) (m : List Int), iv = .int .i64 i ∧ jv = .int .i64 ((n : Int) - 1 - i) ∧ 2 * i ≤ n + 1 ∧ m.length = n ∧ (∀ k, k < n → m.getD k 0 = revAt l i k) ∧ RevRow wr base o c n m ∧ Kp (fun k => o = some k) w wr) (fun iv _ _ => n - (intOf iv).toNat)
  case atStart => exact ⟨0, l, rfl, by simp, by omega, Hn.out.symm, fun k hk => by unfold revAt; rw [if_neg (by have := Hn.out; omega)], h, Kp.refl _ _⟩
  case round =>
    clear h
    obtain ⟨i, m, rfl, rfl, hi, hml, hm, hrow, hK⟩ := hrel
    by_cases hlt : (i : Int) < (n : Int) - 1 - i
    · obtain ⟨j, hj⟩ := Int.eq_ofNat_of_zero_le (show 0 ≤ (n : Int) - 1 - i by omega)
      have hjn : j < n := by omega
      have hij : i < j := by omega
      have hin : i < n := by omega
      obtain ⟨g, hg, hgb, hgl, hcell⟩ := hrow.get (by omega)
      subst hg
      have hA : A = some ⟨g, 0, none⟩ := HA.out
      subst hA
      obtain ⟨p1, f1⟩ := hcell i hin
      obtain ⟨q1, f2⟩ := hcell j hjn
      obtain ⟨x, hx⟩ : ∃ x, m.getD i 0 = x := ⟨_, rfl⟩
      obtain ⟨y, hy⟩ : ∃ x, m.getD j 0 = x := ⟨_, rfl⟩
      rw [hx] at p1
      rw [hy] at q1
      have hne : ¬ i = j := by omega
      have Hx := Lib.hid hx
      have Hy := Lib.hid hy
      have Hm := Lib.hid hm
      have Hml := Lib.hid hml
      have Hrow := Lib.hid hrow
      have HK := Lib.hid hK
      have hlt2 : i < j := hij
      clear hx hy hm hml hrow hK hcell
      rw [hj]
      rw [hj] at hlt
      have Hj := Lib.hid hj
      clear hj
      go_wp2_with fail
      go_region
      go_wp2_with fail
      go_roundw
      case rel =>
        refine ⟨i + 1, (m.set i y).set j x, by go_num, congrArg (Value.int .i64) (by have := Hj.out; omega), by have := Hj.out; omega, by rw [List.length_set, List.length_set]; exact Hml.out, fun k hk => ?_, ((Hrow.out.set i y).set j x), ((HK.out.setCell (p := ⟨g, i, none⟩) (.inr rfl) _).setCell (p := ⟨g, j, none⟩) (.inr rfl) _).drew⟩
        have e1 : ∀ (l : List Int) (a b : Nat) (z : Int), a < l.length → (l.set a z).getD b 0 = if a = b then z else l.getD b 0 := fun l a b z h => by
          rw [List.getD_eq_getElem?_getD, List.getD_eq_getElem?_getD, List.getElem?_set]
          by_cases e : a = b
          · subst e; simp [h]
          · simp [e]
        have hl2 := Hn.out
        have hml := Hml.out
        have hj := Hj.out
        rw [e1 _ _ _ _ (by rw [List.length_set]; omega), e1 _ _ _ _ (by omega)]
        by_cases k1 : j = k
        · rw [if_pos k1, ← Hx.out, Hm.out i hin]
          unfold revAt
          rw [if_neg (by omega), if_pos (by omega)]
          congr 1; omega
        · rw [if_neg k1]
          by_cases k2 : i = k
          · rw [if_pos k2, ← Hy.out, Hm.out j hjn]
            unfold revAt
            rw [if_neg (by omega), if_pos (by omega)]
            congr 1; omega
          · rw [if_neg k2, Hm.out k hk]
            unfold revAt
            by_cases k3 : k < i ∨ l.length - i ≤ k
            · rw [if_pos k3, if_pos (by omega)]
            · rw [if_neg k3, if_neg (by omega)]
      case measure => simp [intOf]; omega
    · go_wp2_with fail
      go_end0
      refine ⟨rfl, ?_, hK⟩
      have e : m = l.reverse := by
        apply List.ext_getElem?
        intro k
        by_cases hk : k < n
        · have := hm k hk
          have hl2 := Hn.out
          rw [List.getD_eq_getElem?_getD, List.getElem?_eq_getElem (by omega)] at this
          rw [List.getElem?_eq_getElem (by omega), List.getElem?_eq_getElem (by rw [List.length_reverse]; omega), List.getElem_reverse]
          have this : m[k] = revAt l i k := this
          rw [this]
          unfold revAt
          by_cases hk2 : k < i ∨ l.length - i ≤ k
          · rw [if_pos hk2, List.getD_eq_getElem?_getD, List.getElem?_eq_getElem (by omega)]; rfl
          · rw [if_neg hk2, List.getD_eq_getElem?_getD, List.getElem?_eq_getElem (by omega)]
            simp only [Option.getD_some]
            congr 1
            congr 1
            omega
        · rw [List.getElem?_eq_none (by omega), List.getElem?_eq_none (by rw [List.length_reverse, ← Hn.out]; omega)]
      rw [← e]; exact hrow
end Go.Proofs.Ytphebdmdbnpokaa
