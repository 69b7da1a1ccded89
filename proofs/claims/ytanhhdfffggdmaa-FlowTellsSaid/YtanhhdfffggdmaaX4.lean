/- The walk of flow.Check. -/
import Derived.Test.YtanhhdfffggdmaaX3
namespace Go.Proofs.Ytanhhdfffggdmaa
open Go.RowKit FM
attribute [local go_sem] alloc_drewN setCell_drewN shape_drewN
attribute [local go_sem ↓] Go.wp_at_zero Go.wp_at_succ

def CheckOk (n : Int) (A : List Arc) (s t : Int) (fl side : List Int) : Prop :=
  Valid n A s t ∧ fl.length = A.length ∧ sideOk n s t side ∧ feas A fl ∧ (∀ v : Nat, (v : Int) < n → (v : Int) ≠ s → (v : Int) ≠ t → exc A fl v = 0) ∧ exc A fl s = cut A (memB side)
noncomputable def checkB (n : Int) (A : List Arc) (s t : Int) (fl side : List Int) : Bool := @decide (CheckOk n A s t fl side) (Classical.propDecidable _)
theorem checkB_true {n : Int} {A : List Arc} {s t : Int} {fl side : List Int} (h : CheckOk n A s t fl side) : checkB n A s t fl side = true := @decide_eq_true _ (Classical.propDecidable _) h
theorem checkB_false {n : Int} {A : List Arc} {s t : Int} {fl side : List Int} (h : ¬ CheckOk n A s t fl side) : checkB n A s t fl side = false := @decide_eq_false _ (Classical.propDecidable _) h
theorem checkB_of {n : Int} {A : List Arc} {s t : Int} {fl side : List Int} (h : checkB n A s t fl side = true) : CheckOk n A s t fl side := @of_decide_eq_true _ (Classical.propDecidable _) h
def CheckSaid (n : Int) (A : List Arc) (s t : Int) (fl side : List Int) (w : World) (e : Ending) (w' : World) : Prop := e = .returned (.bool (checkB n A s t fl side)) ∧ Below w.heap.size w w'
theorem CheckSaid.no {n : Int} {A : List Arc} {s t : Int} {fl side : List Int} {w w' : World} (h : ¬ CheckOk n A s t fl side) (hb : Below w.heap.size w w') : CheckSaid n A s t fl side w (.returned (.bool false)) w' := ⟨by rw [checkB_false h], hb⟩
theorem feas_snoc {A : List Arc} {f : List Int} {k : Nat} {a : Arc} {x : Int} (ha : A[k]? = some a) (hx : f[k]? = some x) (hl : f.length = A.length) (h : feas (A.take k) (f.take k)) (h0 : 0 ≤ x) (h1 : x ≤ a.2.2) : feas (A.take (k + 1)) (f.take (k + 1)) := by
  rw [List.take_add_one, List.take_add_one, ha, hx]
  exact feas_app h ⟨h0, h1, trivial⟩
theorem feas_at : ∀ {A : List Arc} {f : List Int} {k : Nat} {a : Arc} {x : Int}, feas A f → A[k]? = some a → f[k]? = some x → 0 ≤ x ∧ x ≤ a.2.2
  | b :: A, y :: f, 0, a, x, h, h1, h2 => by
    obtain rfl : b = a := by simpa using h1
    obtain rfl : y = x := by simpa using h2
    exact ⟨h.1, h.2.1⟩
  | b :: A, y :: f, k + 1, a, x, h, h1, h2 => feas_at (k := k) h.2.2 (by simpa using h1) (by simpa using h2)
  | [], [], k, a, x, _, h1, _ => by simp at h1
theorem exc_snoc {A : List Arc} {f : List Int} {k : Nat} {a : Arc} {x : Int} (ha : A[k]? = some a) (hx : f[k]? = some x) (hl : f.length = A.length) (v : Int) : exc (A.take (k + 1)) (f.take (k + 1)) v = exc (A.take k) (f.take k) v + ind (a.1 == v) x - ind (a.2.1 == v) x := by
  rw [List.take_add_one, List.take_add_one, ha, hx, exc_app v (by simp [hl])]
  simp [exc]; omega
theorem cut_snoc {A : List Arc} {k : Nat} {a : Arc} (ha : A[k]? = some a) (S : Int → Bool) : cut (A.take (k + 1)) S = cut (A.take k) S + ind (S a.1 && !S a.2.1) a.2.2 := by
  rw [cut_sum, cut_sum, List.take_add_one, ha, List.map_append, List.sum_append]
  simp
theorem exc_bd : ∀ {A : List Arc} {f : List Int}, feas A f → (∀ a ∈ A, a.2.2 ≤ 1125899906842624) → ∀ v, -(A.length * 1125899906842624 : Int) ≤ exc A f v ∧ exc A f v ≤ A.length * 1125899906842624
  | [], [], _, _, v => by simp [exc]
  | a :: A, x :: f, h, hc, v => by
    obtain ⟨i1, i2⟩ := exc_bd h.2.2 (fun b hb => hc b (List.mem_cons_of_mem _ hb)) v
    have := hc a List.mem_cons_self
    have h0 := h.1
    have h1 := h.2.1
    simp only [exc, List.length_cons]
    cases a.1 == v <;> cases a.2.1 == v <;> simp [ind] <;> omega
theorem cut_nonneg {S : Int → Bool} : ∀ {A : List Arc}, (∀ a ∈ A, 0 ≤ a.2.2) → 0 ≤ cut A S
  | [], _ => by simp [cut]
  | a :: A, h => by
    have ih := cut_nonneg (S := S) (A := A) fun b hb => h b (List.mem_cons_of_mem _ hb)
    have := ind_nonneg (b := S a.1 && !S a.2.1) (h a List.mem_cons_self)
    simp only [cut]; omega
theorem check_inv (n s t : Int) (C : Option Addr) (cc : Nat) (A : List Arc) (FA : Option Addr) (fc : Nat) (fl : List Int) (SA : Option Addr) (sc : Nat) (side : List Int) (w : World) (hC : ArcsAt w w.heap.size C A) (hlA : A.length ≤ 9223372036854775807) (hV : ¬ Valid n A s t) :
    Calls Try.prog 14 #[.int .i64 n, .slice C A.length cc, .int .i64 s, .int .i64 t, .slice FA fl.length fc, .slice SA side.length sc] w (CheckSaid n A s t fl side w) := by
  have hcall := Lib.hid (valid_any n s t C cc A w hC hlA)
  have Hv := Lib.hid (validB_false hV)
  have Hn : Hid (¬ CheckOk n A s t fl side) := fun h => hV h.1
  clear hV hlA
  go_enter Try.func14, Try.ntmps14
  go_wp2_with (go_at_call 19; refine hcall.out.mono ?_; rintro e1 w1 ⟨rfl, hb⟩; rw [Hv.out])
  go_ret
  exact .no Hn.out hb
theorem check_len (n s t : Int) (C : Option Addr) (cc : Nat) (A : List Arc) (FA : Option Addr) (fc : Nat) (fl : List Int) (SA : Option Addr) (sc : Nat) (side : List Int) (w : World) (hC : ArcsAt w w.heap.size C A) (hlA : A.length ≤ 9223372036854775807) (hl2 : fl.length ≤ 9223372036854775807) (hV : Valid n A s t) (hl : fl.length ≠ A.length) :
    Calls Try.prog 14 #[.int .i64 n, .slice C A.length cc, .int .i64 s, .int .i64 t, .slice FA fl.length fc, .slice SA side.length sc] w (CheckSaid n A s t fl side w) := by
  have hcall := Lib.hid (valid_any n s t C cc A w hC hlA)
  have Hv := Lib.hid (validB_true hV)
  have Hn : Hid (¬ CheckOk n A s t fl side) := fun h => hl h.2.1
  have hl' : ((fl.length : Int) != (A.length : Int)) = true := by simp; omega
  have hl'' : (fl.length != A.length) = true := by simp; omega
  clear hV hlA
  go_enter Try.func14, Try.ntmps14
  go_wp2_with (go_at_call 19; refine hcall.out.mono ?_; rintro e1 w1 ⟨rfl, hb⟩; rw [Hv.out])
  go_ret
  exact .no Hn.out hb

set_option maxHeartbeats 2000000 in
set_option maxRecDepth 10000 in
theorem check_yes (n s t : Nat) (C : Option Addr) (cc : Nat) (A : List Arc) (FA : Option Addr) (fc : Nat) (fl : List Int) (SA : Option Addr) (sc : Nat) (side : List Int) (w : World) (hC : ArcsAt w w.heap.size C A) (hFl : IntsAt w w.heap.size FA fl) (hSd : IntsAt w w.heap.size SA side) (hl2 : side.length ≤ 9223372036854775807)
    (hV : Valid n A s t) (hl : fl.length = A.length) :
    Calls Try.prog 14 #[.int .i64 n, .slice C A.length cc, .int .i64 s, .int .i64 t, .slice FA fl.length fc, .slice SA side.length sc] w (CheckSaid n A s t fl side w) := by
  obtain ⟨hA, hcap⟩ := valid_facts hV
  have hV' := hV
  obtain ⟨v1, v2, v3, _, v4, v5, v6, v7, v8⟩ := hV'
  have hcall := Lib.hid (valid_any n s t C cc A w hC (by omega))
  have Hv := Lib.hid (validB_true hV)
  obtain ⟨i0, hi, hz0, hz1, hz2⟩ := info_parts info3
  have hmk := fun wx => run_make1 (P := Try.prog) 23 3 i0 (.int .i64 0) Try.underlying23 hi hz0 hz1 rfl n n (Nat.le_refl _) (by rw [hz2]; omega) (by omega) wx
  have HV := Lib.hid hV
  have Hl := Lib.hid hl
  clear hV
  rw [hl]
  clear hl
  go_enter Try.func14, Try.ntmps14
  go_wp2_with (go_at_call 19; refine hcall.out.mono ?_; rintro e1 w1 ⟨rfl, hb⟩; rw [Hv.out])
  have hcall2 := Lib.hid (inside_any n s t (by omega) (by omega) (by omega) SA sc side w1 ((hSd.below hb).more hb.size) hl2)
  go_wp2_with (go_at_call 26; refine hcall2.out.mono ?_; rintro e2 w2 ⟨vs, b, rfl, hb2, hiff, hin⟩; have HI := Lib.hid (And.intro hiff hin); clear hiff hin; cases b)
  · have Hn : Hid (¬ CheckOk n A s t fl side) := fun h => absurd (HI.out.1.2 h.2.2.1) (by decide)
    go_wp2_with fail
    go_ret
    exact .no Hn.out (hb.trans (hb2.mono hb.size))
  · have HS := Lib.hid (HI.out.1.1 trivial)
    obtain ⟨gi, rfl, hg1, hg2, hArI⟩ := HI.out.2 trivial
    clear HI
    have hbw2 : Below w.heap.size w w2 := hb.trans (hb2.mono hb.size)
    go_wp2_with fail
    clear hmk
    have hcap' : ∀ a ∈ A, a.2.2 ≤ 1125899906842624 := fun a ha => (hcap a ha).2
    have hcap0 : ∀ a ∈ A, 0 ≤ a.2.2 := fun a ha => (hcap a ha).1
    go_loopw [15, 48] (fun c i wr => ∃ k : Nat, k ≤ A.length ∧ i = .int .i64 k ∧ c = .int .i64 (cut (A.take k) (memB side)) ∧ Hid (feas (A.take k) (fl.take k)) ∧ Arr wr w2.heap.size n (fun j => .int .i64 (exc (A.take k) (fl.take k) j)) ∧ Below w2.heap.size w2 wr ∧ w2.heap.size < wr.heap.size) (fun _ i _ => A.length - (intOf i).toNat)
    case atStart => exact ⟨0, Nat.zero_le _, rfl, by simp [cut], trivial, (Arr.made w2 _ n 3).congr (fun j _ => by simp [exc]), (Below.refl _ _).alloc (Nat.le_refl _) _, by simp⟩
    case round =>
      obtain ⟨k, hk, rfl, rfl, hfe, hArr, hbr, hgr⟩ := hrel
      have hbc := hbw2.trans (hbr.mono hbw2.size)
      have hcl := cut_le (A := A.take k) (S := memB side) (fun a ha => hcap a (List.mem_of_mem_take ha))
      have hcn := cut_nonneg (A := A.take k) (S := memB side) (fun a ha => hcap0 a (List.mem_of_mem_take ha))
      have htl : (A.take k).length ≤ k := List.length_take_le _ _
      obtain ⟨c, hc⟩ : ∃ c, c = cut (A.take k) (memB side) := ⟨_, rfl⟩
      rw [← hc] at hcl hcn ⊢
      have Hc := Lib.hid hc
      clear hc
      by_cases hlt : k < A.length
      · obtain ⟨b, off, x, y, z, rfl, hbb, ha, c0, c1, c2⟩ := (hC.below hbc).at_ hlt
        obtain ⟨bf, of, rfl, hbf, hcf⟩ := (CellsAt.below hFl hbc) (by have := Hl.out; omega)
        have cf := hcf k (by have := Hl.out; omega)
        simp only [intF] at cf
        clear hcf
        obtain ⟨f, hf⟩ : ∃ f, f = fl.getD k 0 := ⟨_, rfl⟩
        rw [← hf] at cf
        have hfk : fl[k]? = some f := by rw [hf, List.getD_eq_getElem?_getD, List.getElem?_eq_getElem (by have := Hl.out; omega)]; rfl
        have hsz1 := hbc.size
        have cfa := (old_cell (.cells #[.int .i64 x, .int .i64 y, .int .i64 z] 37) (show bf < wr.heap.size by omega)).trans cf
        have HF := Lib.hid (And.intro hf hfk)
        clear hf hfk
        have no : ¬ (0 ≤ f ∧ f ≤ z) → Hid (¬ CheckOk n A s t fl side) := fun g => fun h => g (feas_at h.2.2.2.1 ha.out HF.out.2)
        have hz := hcap _ (List.mem_of_getElem? ha.out)
        have hz : 0 ≤ z ∧ z ≤ 1125899906842624 := hz
        by_cases h1 : 0 ≤ f
        case neg =>
          have Hn := no (fun g => h1 g.1)
          have h1' : decide (f < 0) = true := by simp; omega
          clear no hArr
          go_upto_region 11 with fail
          go_quiet (fail)
          go_wp2_with fail
          go_ret
          exact .no Hn.out (below_drewN (hbc.alloc hbc.size _) _)
        have h1' : decide (f < 0) = false := by simp; omega
        by_cases h2 : f ≤ z
        case neg =>
          have Hn := no (fun g => h2 g.2)
          clear no hArr
          go_upto_region 11 with fail
          go_quiet (fail)
          go_wp2_with fail
          go_ret
          exact .no Hn.out (below_drewN (hbc.alloc hbc.size _) _)
        clear no
        have hin := hA _ (List.mem_of_getElem? ha.out)
        obtain ⟨g0, g1, g2, g3⟩ := hin
        have g0 : 0 ≤ x := g0
        have g1 : x < n := g1
        have g2 : 0 ≤ y := g2
        have g3 : y < n := g3
        obtain ⟨x, hx⟩ := Int.eq_ofNat_of_zero_le g0
        obtain ⟨y, hy⟩ := Int.eq_ofNat_of_zero_le g2
        subst hx hy
        go_upto_region 11 with fail
        go_quiet (fail)
        go_wp2_with fail
        have hArI' : Arr wr gi n (fun j => .bool (memB side j)) := hArI.below hbr hg2
        have hkk : 0 ≤ (k : Int) ∧ (k : Int) < (A.length : Int) := by omega
        obtain ⟨ex, hex⟩ : ∃ ex, ex = exc (A.take k) (fl.take k) x := ⟨_, rfl⟩
        obtain ⟨ey, hey⟩ : ∃ ey, ey = (if y = x then ex + f else exc (A.take k) (fl.take k) y) := ⟨_, rfl⟩
        have hbx := exc_bd hfe.out (fun a ha => hcap' a (List.mem_of_mem_take ha)) x
        have hby := exc_bd hfe.out (fun a ha => hcap' a (List.mem_of_mem_take ha)) y
        rw [← hex] at hbx
        have hbey : -4611686018427387904 ≤ ey ∧ ey ≤ 4611686018427387904 + 1125899906842624 := by rw [hey]; split <;> omega
        have hbex : -4611686018427387904 ≤ ex ∧ ex ≤ 4611686018427387904 := by omega
        have hgs : w2.heap.size ≠ wr.heap.size := by omega
        have hAr2 := (hArr.set (show x < n by omega) (.int .i64 (ex + f)))
        have hAr3 := (hAr2.set (show y < n by omega) (.int .i64 (ey - f)))
        obtain ⟨m1, m2⟩ := (hArr.alloc hgr (.cells #[.int .i64 x, .int .i64 y, .int .i64 z] 37)) x (by omega)
        obtain ⟨m3, m4⟩ := (hAr2.alloc (by simpa using hgr) (.cells #[.int .i64 x, .int .i64 y, .int .i64 z] 37)) y (by omega)
        dsimp only at m1
        rw [← hex] at m1
        have e3 : updF (fun j => Value.int IntKind.i64 (exc (A.take k) (fl.take k) j)) x (.int .i64 (ex + f)) y = .int .i64 ey := by
          unfold updF; rw [hey]; split <;> rfl
        rw [e3] at m3
        have cfa2 := (old_cell (w := wr.setCell ⟨w2.heap.size, x, none⟩ (.int .i64 (ex + f))) (.cells #[.int .i64 x, .int .i64 y, .int .i64 z] 37) (show bf < (wr.setCell _ _).heap.size by simp; omega)).trans ((cset_other (fun e => by injection e with e1; have := hbw2.size; omega)).trans cf)
        have hI3 := (((hArI'.far (p := ⟨w2.heap.size, x, none⟩) (by show gi ≠ w2.heap.size; omega) (.int .i64 (ex + f))).far (p := ⟨w2.heap.size, y, none⟩) (by show gi ≠ w2.heap.size; omega) (.int .i64 (ey - f))).alloc (by simp; omega) (.cells #[.int .i64 x, .int .i64 y, .int .i64 z] 37))
        have cix := (hI3 x (by omega)).1
        have ciy := (hI3 y (by omega)).1
        obtain ⟨p, hp⟩ : ∃ p, p = memB side x := ⟨_, rfl⟩
        obtain ⟨q, hq⟩ : ∃ q, q = memB side y := ⟨_, rfl⟩
        dsimp only at cix ciy
        rw [← hp] at cix
        rw [← hq] at ciy
        have HP := Lib.hid (And.intro hp (And.intro hq (And.intro hex hey)))
        have HAr := Lib.hid hAr3
        clear hp hq hex hey hArr hAr2 hAr3 hI3 hArI' e3 hby hbx cf
        have wr1 : IntKind.i64.wrap (ex + f) = ex + f := IntWalk.i64_in _ (by omega)
        have wr2 : IntKind.i64.wrap (ey - f) = ey - f := IntWalk.i64_in _ (by omega)
        refine Plan.wp_region_plan (fun w' => w'.cell? ⟨wr.heap.size, 0, none⟩ = some (.int .i64 x) ∧ w'.cell? ⟨bf, of + k, none⟩ = some (.int .i64 f) ∧ w'.cell? ⟨w2.heap.size, x, none⟩ = some (.int .i64 ex) ∧ w'.frozen? ⟨w2.heap.size, x, none⟩ = false) 11 [(0, true), (1, true), (2, true), (3, true), (4, true), (5, true), (6, true), (7, true), (8, true), (9, true), (10, true), (11, false)] (by kernel_rfl) (by kernel_rfl) ?_ ?_
        · refine ⟨?_, ?_, ?_, ?_⟩ <;> go_simp
        (repeat (refine Plan.plan_read (v := ?_) rfl rfl ?_ ?_; rotate_left; (focus ((intro wS hSw; (try dsimp only at hSw); go_simp); try with_reducible rfl)); simp only [Act.put, List.setIfInBounds_toArray, List.set_cons_zero, List.set_cons_succ]))
        refine Plan.plan_last rfl (fun K hK => ?_)
        go_simp
        refine hK.out _ _ ?_
        clear hK K
        try simp only [Act.put, List.setIfInBounds_toArray, List.set_cons_zero, List.set_cons_succ]
        go_wp2_with fail
        refine Plan.wp_region_plan (fun w' => w'.cell? ⟨wr.heap.size, 1, none⟩ = some (.int .i64 y) ∧ w'.cell? ⟨bf, of + k, none⟩ = some (.int .i64 f) ∧ w'.cell? ⟨w2.heap.size, y, none⟩ = some (.int .i64 ey) ∧ w'.frozen? ⟨w2.heap.size, y, none⟩ = false) 11 [(0, true), (1, true), (2, true), (3, true), (4, true), (5, true), (6, true), (7, true), (8, true), (9, true), (10, true), (11, false)] (by kernel_rfl) (by kernel_rfl) ?_ ?_
        · refine ⟨?_, ?_, ?_, ?_⟩ <;> go_simp
        (repeat (refine Plan.plan_read (v := ?_) rfl rfl ?_ ?_; rotate_left; (focus ((intro wS hSw; (try dsimp only at hSw); go_simp); try with_reducible rfl)); simp only [Act.put, List.setIfInBounds_toArray, List.set_cons_zero, List.set_cons_succ]))
        refine Plan.plan_last rfl (fun K hK => ?_)
        go_simp
        refine hK.out _ _ ?_
        clear hK K
        try simp only [Act.put, List.setIfInBounds_toArray, List.set_cons_zero, List.set_cons_succ]
        clear wr1 wr2
        have hnext := fun (m : Nat) => And.intro (feas_snoc ha.out HF.out.2 Hl.out hfe.out h1 h2) (And.intro ((HAr.out.alloc (by simpa using hgr) (.cells #[.int .i64 x, .int .i64 y, .int .i64 z] 37)).congr (G := fun j => .int .i64 (exc (A.take (k + 1)) (fl.take (k + 1)) j)) (fun j hj => by
            obtain ⟨e1, e2, e3, e4⟩ := HP.out
            rw [exc_snoc ha.out HF.out.2 Hl.out]
            unfold updF
            by_cases a1 : j = y
            · subst a1
              rw [if_pos rfl, e4]
              by_cases a2 : j = x
              · subst a2; rw [if_pos rfl, e3]; simp [ind]
              · rw [if_neg a2]
                have : (((x : Nat) : Int) == (j : Int)) = false := by simp; omega
                simp [ind, this]
            · rw [if_neg a1]
              have b1 : (((y : Nat) : Int) == (j : Int)) = false := by simp; omega
              by_cases a2 : j = x
              · subst a2; rw [if_pos rfl, e3]; simp [ind, b1]
              · rw [if_neg a2]
                have b2 : (((x : Nat) : Int) == (j : Int)) = false := by simp; omega
                simp [ind, b1, b2])) (((hbr.setCell (p := ⟨w2.heap.size, x, none⟩) (Nat.le_refl _) (.int .i64 (ex + f))).setCell (p := ⟨w2.heap.size, y, none⟩) (Nat.le_refl _) (.int .i64 (ey - f))).alloc (by simp; omega) (.cells #[.int .i64 x, .int .i64 y, .int .i64 z] 37)))
        have HN := Lib.hid hnext
        have Hcut := Lib.hid (cut_snoc ha.out (memB side))
        clear hnext hfe hbr
        cases p <;> cases q
        all_goals
          go_wp2_with fail
          go_roundw
          case rel =>
            obtain ⟨r1, r2, r3⟩ := HN.out 0
            obtain ⟨e1, e2, e3, e4⟩ := HP.out
            refine ⟨k + 1, by omega, by go_num, ?_, r1, r2, below_drewN r3 _, by simp; omega⟩
            rw [Hcut.out]
            show _ = Value.int .i64 (_ + ind (memB side x && !memB side y) z)
            rw [← e1, ← e2, ← Hc.out]
            simp [ind]
          case measure => simp [intOf]; omega
      · obtain rfl : A.length = k := by omega
        have hallA : A.take A.length = A := List.take_length
        have hallF : fl.take A.length = fl := List.take_of_length_le (by have := Hl.out; omega)
        rw [hallA, hallF] at hfe hArr
        rw [hallA] at Hc
        clear hallA hallF htl hcl
        have hms := (hArr s (by omega)).1
        dsimp only at hms
        go_wp2_with fail
        go_loopw [109] (fun i wq => ∃ k : Nat, k ≤ n ∧ i = .int .i64 k ∧ Hid (∀ v : Nat, v < k → (v : Int) ≠ s → (v : Int) ≠ t → exc A fl v = 0) ∧ wq = wr) (fun i _ => n - (intOf i).toNat)
        case atStart => exact ⟨0, Nat.zero_le _, rfl, fun v hv => absurd hv (Nat.not_lt_zero _), rfl⟩
        case round =>
          obtain ⟨k, hkn, rfl, hkp, rfl⟩ := hrel
          by_cases hlt : k < n
          · have hmk := (hArr k hlt).1
            dsimp only at hmk
            obtain ⟨d, hd⟩ : ∃ d, d = exc A fl k := ⟨_, rfl⟩
            rw [← hd] at hmk
            have nxt : (k ≠ s → k ≠ t → d = 0) → Hid (∀ v : Nat, v < k + 1 → (v : Int) ≠ s → (v : Int) ≠ t → exc A fl v = 0) := fun h => fun v hv h1 h2 => by
              by_cases g : v < k
              · exact hkp.out v g h1 h2
              · obtain rfl : v = k := by omega
                rw [← hd]; exact h (by omega) (by omega)
            have no : d ≠ 0 → k ≠ s → k ≠ t → Hid (¬ CheckOk n A s t fl side) := fun h h1 h2 => fun g => h (by rw [hd]; exact g.2.2.2.2.1 k (by omega) (by omega) (by omega))
            clear hd hArr hms
            by_cases d0 : d = 0
            · have Hn := nxt (fun _ _ => d0)
              subst d0
              clear no nxt
              go_wp2_with fail
              go_roundw
              case rel => exact ⟨k + 1, by omega, by go_num, Hn, trivial⟩
              case measure => simp [intOf]; omega
            have d0' : (d != 0) = true := by simp; exact d0
            by_cases ds : k = s
            · have Hn := nxt (fun h => absurd ds h)
              subst ds
              clear no nxt
              go_wp2_with fail
              go_roundw
              case rel => exact ⟨k + 1, by omega, by go_num, Hn, trivial⟩
              case measure => simp [intOf]; omega
            have ds' : ((k : Int) != (s : Int)) = true := by simp; omega
            by_cases dt : k = t
            · have Hn := nxt (fun _ h => absurd dt h)
              subst dt
              clear no nxt
              go_wp2_with fail
              go_roundw
              case rel => exact ⟨k + 1, by omega, by go_num, Hn, trivial⟩
              case measure => simp [intOf]; omega
            have dt' : ((k : Int) != (t : Int)) = true := by simp; omega
            have Hn := no d0 ds dt
            clear no nxt
            go_wp2_with fail
            go_ret
            exact .no Hn.out hbc
          · obtain rfl : n = k := by omega
            have hHO := Lib.hid hkp
            obtain ⟨d, hd⟩ : ∃ d, d = exc A fl s := ⟨_, rfl⟩
            rw [← hd] at hms
            have Hd := Lib.hid hd
            clear hd hArr hkp
            go_wp2_with fail
            go_ret
            refine ⟨ret_bool ?_, hbc⟩
            show (d == c) = _
            have e1 := Hd.out
            have e2 := Hc.out
            by_cases g : d = c
            · rw [checkB_true ⟨HV.out, Hl.out, HS.out, hfe.out, fun v hv => hHO.out.out v (by omega), by rw [← e1, ← e2]; exact g⟩]
              simp [g]
            · rw [checkB_false (fun h => g (by rw [e1, e2]; exact h.2.2.2.2.2))]
              simp [g]
end Go.Proofs.Ytanhhdfffggdmaa
