/- The walks of the reference's node, Usable, people, Open. -/
import Derived.Deep.Cut
import Derived.Test.YtphebdmdbnpokaaR4
set_option linter.unusedSimpArgs false
set_option linter.unusedVariables false
namespace Go.Proofs.Ytphebdmdbnpokaa
open Go.RowKit RD
attribute [local go_sem] alloc_drewN setCell_drewN shape_drewN
def nodeB (N : Nat) (n : Int) : Bool := decide (0 ≤ n ∧ n < N)
def NodeIs (X : Bs) (n : Int) (w : World) (e : Ending) (w' : World) : Prop := e = .returned (.bool (nodeB X.N n)) ∧ w' = w.alloc (.cells #[.string X.nm, .slice X.a1 X.l1 X.c1, .int .i64 X.cl, .slice X.a3 X.l3 X.c3, .slice X.a4 X.l4 X.c4, .slice X.a5 X.T.length X.c5, .slice X.a6 X.l6 X.c6, .slice X.a7 X.R.length X.c7, .slice X.a8 X.S.length X.c8, .slice X.a9 X.l9 X.c9, .int .i64 X.er] 31)
theorem NodeIs.no {X : Bs} {n : Int} {w : World} (h : n < 0) : NodeIs X n w (.returned (.bool false)) (w.alloc (.cells #[.string X.nm, .slice X.a1 X.l1 X.c1, .int .i64 X.cl, .slice X.a3 X.l3 X.c3, .slice X.a4 X.l4 X.c4, .slice X.a5 X.T.length X.c5, .slice X.a6 X.l6 X.c6, .slice X.a7 X.R.length X.c7, .slice X.a8 X.S.length X.c8, .slice X.a9 X.l9 X.c9, .int .i64 X.er] 31)) := ⟨by unfold nodeB; rw [decide_eq_false (by omega)], rfl⟩
theorem NodeIs.last {X : Bs} {n : Int} {w : World} (h : 0 ≤ n) : NodeIs X n w (.returned (.bool (decide (n < (X.T.length : Int) + (X.S.length : Int))))) (w.alloc (.cells #[.string X.nm, .slice X.a1 X.l1 X.c1, .int .i64 X.cl, .slice X.a3 X.l3 X.c3, .slice X.a4 X.l4 X.c4, .slice X.a5 X.T.length X.c5, .slice X.a6 X.l6 X.c6, .slice X.a7 X.R.length X.c7, .slice X.a8 X.S.length X.c8, .slice X.a9 X.l9 X.c9, .int .i64 X.er] 31)) := ⟨by
  have hN : (X.N : Int) = (X.T.length : Int) + (X.S.length : Int) := by unfold Bs.N; omega
  unfold nodeB; rw [hN]
  by_cases g : n < (X.T.length : Int) + (X.S.length : Int)
  · rw [decide_eq_true g, decide_eq_true ⟨h, g⟩]
  · rw [decide_eq_false g, decide_eq_false (fun q => g q.2)], rfl⟩
theorem node_any (X : Bs) (n : Int) (w : World) (hl : BsLen X) : Calls Try.prog 45 #[.agg #[.string X.nm, .slice X.a1 X.l1 X.c1, .int .i64 X.cl, .slice X.a3 X.l3 X.c3, .slice X.a4 X.l4 X.c4, .slice X.a5 X.T.length X.c5, .slice X.a6 X.l6 X.c6, .slice X.a7 X.R.length X.c7, .slice X.a8 X.S.length X.c8, .slice X.a9 X.l9 X.c9, .int .i64 X.er], .int .i64 n] w (NodeIs X n w) := by
  obtain ⟨t1, t2, t3, t4⟩ := hl
  have hq1 : IntKind.i64.wrap ((X.T.length : Int) + (X.S.length : Int)) = (X.T.length : Int) + (X.S.length : Int) := by rw [IntKind.wrap_i64]; omega
  go_enter Try.func45, Try.ntmps45
  go_wp2_with fail
  all_goals
    go_ret
    first
      | exact .no (by omega)
      | exact .last (by omega)
theorem us_nodes {N P : Nat} {r : Rd} (h : usableB N P r = true) : nodeB N r.frm = true ∧ nodeB N r.to_ = true := by
  have := usable_iff.1 h
  unfold nodeB
  exact ⟨decide_eq_true (by omega), decide_eq_true (by omega)⟩
set_option maxHeartbeats 2000000 in
theorem rusable_any (X : Bs) (r : Rd) (w : World) (hl : BsLen X) : Calls Try.prog 30 #[.agg #[.string X.nm, .slice X.a1 X.l1 X.c1, .int .i64 X.cl, .slice X.a3 X.l3 X.c3, .slice X.a4 X.l4 X.c4, .slice X.a5 X.T.length X.c5, .slice X.a6 X.l6 X.c6, .slice X.a7 X.R.length X.c7, .slice X.a8 X.S.length X.c8, .slice X.a9 X.l9 X.c9, .int .i64 X.er], .agg #[.string r.nm, .int .i64 r.frm, .int .i64 r.to_, .int .i64 r.hours, .int .i64 r.flow, .int .i64 r.by_, .int .i64 r.limit]] w (UsIs X r w) := by
  have K1 := Lib.hid (fun n wx => node_any X n wx hl)
  unfold NodeIs at K1
  have hb := ((((Below.refl w.heap.size w).alloc (Nat.le_refl _) (.cells #[.string X.nm, .slice X.a1 X.l1 X.c1, .int .i64 X.cl, .slice X.a3 X.l3 X.c3, .slice X.a4 X.l4 X.c4, .slice X.a5 X.T.length X.c5, .slice X.a6 X.l6 X.c6, .slice X.a7 X.R.length X.c7, .slice X.a8 X.S.length X.c8, .slice X.a9 X.l9 X.c9, .int .i64 X.er] 31)).alloc (by simp) (.cells (roadC r).toArray 56)).alloc (by simp; omega) (.cells #[.string X.nm, .slice X.a1 X.l1 X.c1, .int .i64 X.cl, .slice X.a3 X.l3 X.c3, .slice X.a4 X.l4 X.c4, .slice X.a5 X.T.length X.c5, .slice X.a6 X.l6 X.c6, .slice X.a7 X.R.length X.c7, .slice X.a8 X.S.length X.c8, .slice X.a9 X.l9 X.c9, .int .i64 X.er] 31))
  have hbb := hb.alloc (by simp; omega) (.cells #[.string X.nm, .slice X.a1 X.l1 X.c1, .int .i64 X.cl, .slice X.a3 X.l3 X.c3, .slice X.a4 X.l4 X.c4, .slice X.a5 X.T.length X.c5, .slice X.a6 X.l6 X.c6, .slice X.a7 X.R.length X.c7, .slice X.a8 X.S.length X.c8, .slice X.a9 X.l9 X.c9, .int .i64 X.er] 31)
  have Hb := Lib.hid hb
  have Hbb := Lib.hid hbb
  clear hb hbb
  obtain ⟨t1, t2, t3, t4⟩ := hl
  cases hf : nodeB X.N r.frm
  · have hr : usableB X.N X.l3 r = false := by
      cases e : usableB X.N X.l3 r
      · rfl
      · rw [(us_nodes e).1] at hf; cases hf
    have K2 := Lib.hid (K1.out r.frm)
    rw [hf] at K2
    have Hr := Lib.hid hr
    clear hf hr K1
    go_enter Try.func30, Try.ntmps30
    go_wp2_with (first | (go_at_call 45; (with_reducible refine (K2.out _).mono ?_); rintro e1 w1 ⟨rfl, rfl⟩) | fail)
    go_ret
    exact ⟨ret_bool Hr.out.symm, Hb.out⟩
  · cases ht : nodeB X.N r.to_
    · have hr : usableB X.N X.l3 r = false := by
        cases e : usableB X.N X.l3 r
        · rfl
        · rw [(us_nodes e).2] at ht; cases ht
      have K2 := Lib.hid (K1.out r.frm)
      rw [hf] at K2
      have K3 := Lib.hid (K1.out r.to_)
      rw [ht] at K3
      have Hr := Lib.hid hr
      clear hf ht hr K1
      go_enter Try.func30, Try.ntmps30
      go_wp2_with (first | (go_at_call 45; (with_reducible refine (K2.out _).mono ?_); rintro e1 w1 ⟨rfl, rfl⟩) | (go_at_call 45; (with_reducible refine (K3.out _).mono ?_); rintro e1 w1 ⟨rfl, rfl⟩) | fail)
      go_ret
      exact ⟨ret_bool Hr.out.symm, Hbb.out⟩
    · have K2 := Lib.hid (K1.out r.frm)
      rw [hf] at K2
      have K3 := Lib.hid (K1.out r.to_)
      rw [ht] at K3
      have hf' : 0 ≤ r.frm ∧ r.frm < X.N := of_decide_eq_true hf
      have ht' : 0 ≤ r.to_ ∧ r.to_ < X.N := of_decide_eq_true ht
      have Hf := Lib.hid hf'
      have Ht := Lib.hid ht'
      clear hf ht hf' ht' K1
      go_enter Try.func30, Try.ntmps30
      go_wp2_with (first | (go_at_call 45; (with_reducible refine (K2.out _).mono ?_); rintro e1 w1 ⟨rfl, rfl⟩) | (go_at_call 45; (with_reducible refine (K3.out _).mono ?_); rintro e1 w1 ⟨rfl, rfl⟩) | fail)
      all_goals
        go_ret
        have hf := Hf.out
        have ht := Ht.out
        first
          | exact .no Hbb.out (by omega)
          | exact .last Hbb.out (by omega)
theorem people_any (n : Int) (w : World) : Calls Try.prog 32 #[.int .i64 n] w fun e w' => e = .returned (.int .i64 (lim n)) ∧ w = w' := by
  obtain ⟨m, hm⟩ : ∃ m, max n 0 = m := ⟨_, rfl⟩
  obtain ⟨k, hk⟩ : ∃ k, min m 1073741824 = k := ⟨_, rfl⟩
  have h1 : (if n < 0 then 0 else n) = m := by split <;> omega
  have h2 : (if (1073741824 : Int) < m then 1073741824 else m) = k := by split <;> omega
  have hr : lim n = k := by unfold lim; rw [hm, hk]
  have HR := Lib.hid hr
  clear hr
  go_enter Try.func32, Try.ntmps32
  go_wp2_with fail
  go_ret
  exact ⟨ret_int (by rw [HR.out]), rfl⟩
set_option maxRecDepth 100000 in
set_option maxHeartbeats 4000000 in
theorem ropen_yes (X : Bs) (k : Nat) (C : Option Addr) (c : Nat) (V : List Int) (w : World) (hX : RowAt roadC 7 w w.heap.size X.a7 X.R) (hV : IntsAt w w.heap.size C V) (hVl : V.length ≤ 9223372036854775807) (hl : BsLen X) (hk : k < X.R.length) :
    Calls Try.prog 15 #[.agg #[.string X.nm, .slice X.a1 X.l1 X.c1, .int .i64 X.cl, .slice X.a3 X.l3 X.c3, .slice X.a4 X.l4 X.c4, .slice X.a5 X.T.length X.c5, .slice X.a6 X.l6 X.c6, .slice X.a7 X.R.length X.c7, .slice X.a8 X.S.length X.c8, .slice X.a9 X.l9 X.c9, .int .i64 X.er], .int .i64 k, .slice C V.length c] w (OpenIs X k V w) := by
  obtain ⟨r, hr⟩ := road_cell hX hk
  obtain ⟨b, off, ea, hb, c0, c1, c2, c3, c4, c5, c6⟩ := road_at hX hr
  have hE := openB_at (N := X.N) (P := X.l3) (V := V) hr
  have K1 := Lib.hid (fun wx => rusable_any X r wx hl)
  unfold UsIs at K1
  have d2 : decide (k < X.R.length) = true := decide_eq_true hk
  have hRb := hl.r
  rw [ea] at K1 ⊢
  have HV := Lib.hid hV
  have hB0 : Below w.heap.size w ((w.alloc (.cells #[.string X.nm, .slice X.a1 X.l1 X.c1, .int .i64 X.cl, .slice X.a3 X.l3 X.c3, .slice X.a4 X.l4 X.c4, .slice X.a5 X.T.length X.c5, .slice X.a6 X.l6 X.c6, .slice X.a7 X.R.length X.c7, .slice X.a8 X.S.length X.c8, .slice X.a9 X.l9 X.c9, .int .i64 X.er] 31)).alloc (.cells (roadC r).toArray 56)) := ((Below.refl _ _).alloc (Nat.le_refl _) _).alloc (by simp) _
  cases hu : usableB X.N X.l3 r
  · rw [hu] at hE K1
    have HE := Lib.hid hE
    clear hE hr ea hu hX hV hl
    go_enter Try.func15, Try.ntmps15
    go_wp2_with (first | (go_at_call 30; (with_reducible refine (K1.out _).mono ?_); rintro e1 w1 ⟨rfl, hb1⟩) | fail)
    go_ret
    exact ⟨ret_bool (by rw [HE.out]; rfl), ((((Below.refl _ _).alloc (Nat.le_refl _) _).alloc (by simp) _)).trans (hb1.mono (by simp; omega))⟩
  · rw [hu] at hE K1
    obtain ⟨u1, u2, u3, u4, u5, u6, u7, u8⟩ := usable_iff.1 hu
    have hop : openB X.N X.l3 X.R k V = passB r V := by rw [hE]; rfl
    have hbx : Box ((w.alloc (.cells #[.string X.nm, .slice X.a1 X.l1 X.c1, .int .i64 X.cl, .slice X.a3 X.l3 X.c3, .slice X.a4 X.l4 X.c4, .slice X.a5 X.T.length X.c5, .slice X.a6 X.l6 X.c6, .slice X.a7 X.R.length X.c7, .slice X.a8 X.S.length X.c8, .slice X.a9 X.l9 X.c9, .int .i64 X.er] 31)).alloc (.cells (roadC r).toArray 56)) (w.heap.size + 1) (roadC r).toArray 56 := by
      have := Box.new (w.alloc (.cells #[.string X.nm, .slice X.a1 X.l1 X.c1, .int .i64 X.cl, .slice X.a3 X.l3 X.c3, .slice X.a4 X.l4 X.c4, .slice X.a5 X.T.length X.c5, .slice X.a6 X.l6 X.c6, .slice X.a7 X.R.length X.c7, .slice X.a8 X.S.length X.c8, .slice X.a9 X.l9 X.c9, .int .i64 X.er] 31)) (roadC r).toArray 56
      simp only [World.size_alloc] at this; exact this
    rw [ea] at hB0 hbx
    clear hE hr ea hu hV hX hl u1 u2 u3 u4 u5 u6 u8
    by_cases hby : r.by_ < 0
    · have hp : passB r V = true := by
        unfold passB; rw [show (r.by_ == -1) = true by rw [beq_iff_eq]; omega]; rfl
      have HE := Lib.hid (hop.trans hp)
      clear hop hp u7
      go_enter Try.func15, Try.ntmps15
      go_wp2_with fail
      go_at_call 30
      (with_reducible refine (K1.out _).mono ?_)
      rintro e1 w1 ⟨rfl, hb1⟩
      have hbw := hB0.trans (hb1.mono hB0.size)
      have hbx1 := hbx.below hb1 hbx.lt
      have r5 : w1.cell? ⟨w.heap.size + 1, 5, none⟩ = some (.int .i64 r.by_) := hbx1.cell rfl
      have r6 : w1.cell? ⟨w.heap.size + 1, 6, none⟩ = some (.int .i64 r.limit) := hbx1.cell rfl
      go_wp2_with fail
      go_ret
      exact ⟨ret_bool HE.out.symm, hbw⟩
    · obtain ⟨m, hm⟩ := Int.eq_ofNat_of_zero_le (show 0 ≤ r.by_ by omega)
      have hp : passB r V = decide (V.getD m 0 ≤ r.limit) := by
        unfold passB; rw [show (r.by_ == -1) = false by rw [beq_eq_false_iff_ne]; omega, hm]; rfl
      have HE := Lib.hid (hop.trans hp)
      clear hop hp u7
      obtain ⟨nm, frm, to_, hours, flow, by_, limit⟩ := r
      dsimp only at hm
      subst hm
      dsimp only at *
      by_cases hmV : m < V.length
      · obtain ⟨x, hx⟩ : ∃ x, V[m]? = some x := ⟨_, List.getElem?_eq_getElem hmV⟩
        have hxg : V.getD m 0 = x := by rw [List.getD_eq_getElem?_getD, hx]; rfl
        rw [hxg] at HE
        obtain ⟨bV, oV, eV, hbV, cV⟩ := ints_at HV.out hx
        subst eV
        clear hx hxg
        go_enter Try.func15, Try.ntmps15
        go_wp2_with fail
        go_at_call 30
        (with_reducible refine (K1.out _).mono ?_)
        rintro e1 w1 ⟨rfl, hb1⟩
        have hbw := hB0.trans (hb1.mono hB0.size)
        have hbx1 := hbx.below hb1 hbx.lt
        have r5 : w1.cell? ⟨w.heap.size + 1, 5, none⟩ = some (.int .i64 (m : Int)) := hbx1.cell rfl
        have r6 : w1.cell? ⟨w.heap.size + 1, 6, none⟩ = some (.int .i64 limit) := hbx1.cell rfl
        have cV1 : w1.cell? ⟨bV, oV + m, none⟩ = some (.int .i64 x) := (hbw.cell (p := ⟨bV, oV + m, none⟩) hbV).trans cV
        go_wp2_with fail
        go_ret
        exact ⟨ret_bool HE.out.symm, hbw⟩
      · have hxg : V.getD m 0 = 0 := by rw [List.getD_eq_getElem?_getD, List.getElem?_eq_none (by omega)]; rfl
        rw [hxg] at HE
        clear hxg
        go_enter Try.func15, Try.ntmps15
        go_wp2_with fail
        go_at_call 30
        (with_reducible refine (K1.out _).mono ?_)
        rintro e1 w1 ⟨rfl, hb1⟩
        have hbw := hB0.trans (hb1.mono hB0.size)
        have hbx1 := hbx.below hb1 hbx.lt
        have r5 : w1.cell? ⟨w.heap.size + 1, 5, none⟩ = some (.int .i64 (m : Int)) := hbx1.cell rfl
        have r6 : w1.cell? ⟨w.heap.size + 1, 6, none⟩ = some (.int .i64 limit) := hbx1.cell rfl
        go_wp2_with fail
        go_ret
        exact ⟨ret_bool HE.out.symm, hbw⟩
theorem ropen_any (X : Bs) (r : Int) (C : Option Addr) (c : Nat) (V : List Int) (w : World) (hX : RowAt roadC 7 w w.heap.size X.a7 X.R) (hV : IntsAt w w.heap.size C V) (hVl : V.length ≤ 9223372036854775807) (hl : BsLen X) :
    Calls Try.prog 15 #[.agg #[.string X.nm, .slice X.a1 X.l1 X.c1, .int .i64 X.cl, .slice X.a3 X.l3 X.c3, .slice X.a4 X.l4 X.c4, .slice X.a5 X.T.length X.c5, .slice X.a6 X.l6 X.c6, .slice X.a7 X.R.length X.c7, .slice X.a8 X.S.length X.c8, .slice X.a9 X.l9 X.c9, .int .i64 X.er], .int .i64 r, .slice C V.length c] w (OpenIs X r V w) := by
  have hB0 : Below w.heap.size w (w.alloc (.cells #[.string X.nm, .slice X.a1 X.l1 X.c1, .int .i64 X.cl, .slice X.a3 X.l3 X.c3, .slice X.a4 X.l4 X.c4, .slice X.a5 X.T.length X.c5, .slice X.a6 X.l6 X.c6, .slice X.a7 X.R.length X.c7, .slice X.a8 X.S.length X.c8, .slice X.a9 X.l9 X.c9, .int .i64 X.er] 31)) := (Below.refl _ _).alloc (Nat.le_refl _) _
  by_cases h0 : r < 0
  · have HE := Lib.hid (openB_neg (N := X.N) (P := X.l3) (R := X.R) (V := V) h0)
    go_enter Try.func15, Try.ntmps15
    go_wp2_with fail
    go_ret
    exact ⟨ret_bool HE.out.symm, hB0⟩
  · obtain ⟨k, rfl⟩ := Int.eq_ofNat_of_zero_le (show 0 ≤ r by omega)
    by_cases hk : k < X.R.length
    · exact ropen_yes X k C c V w hX hV hVl hl hk
    · have HE := Lib.hid (openB_out (N := X.N) (P := X.l3) (R := X.R) (V := V) (show X.R.length ≤ k by omega))
      have hk2 : X.R.length ≤ k := by omega
      clear hX hV h0
      go_enter Try.func15, Try.ntmps15
      go_wp2_with fail
      go_ret
      exact ⟨ret_bool HE.out.symm, hB0⟩
end Go.Proofs.Ytphebdmdbnpokaa
