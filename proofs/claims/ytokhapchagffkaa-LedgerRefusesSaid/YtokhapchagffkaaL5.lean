/- LedgerRefuses: for every input the law answers true. (Printed by gen_l5.py.) -/
import Derived.Deep.Cut
import Derived.Test.YtokhapchagffkaaLB
import Derived.Test.YtokhapchagffkaaAR
set_option linter.unusedSimpArgs false
set_option linter.unusedVariables false
namespace Go.Proofs.Ytokhapchagffkaa
open Go.RowKit LG
attribute [local go_sem] alloc_drewN setCell_drewN shape_drewN
set_option maxRecDepth 100000 in
set_option maxHeartbeats 16000000 in
theorem refuses_any (ps : List (List Et)) (p : List Et) (C : Option Addr) (cc : Nat) (D : Option Addr) (dc : Nat) (at1 d : Int) (w : World) (hC : PostsAt w w.heap.size C ps) (hl : ps.length ≤ 9223372036854775807) (hn : ∀ p ∈ ps, p.length ≤ 9223372036854775807) (hP : PsIn ps) (hD : EntsAt w w.heap.size D p) (hl2 : p.length ≤ 9223372036854775807) (hI : LitsIn p) (hcap : p.length ≤ dc) (hcap2 : dc ≤ 9223372036854775807) :
    Calls Try.prog 7 #[.slice C ps.length cc, .slice D p.length dc, .int .i64 at1, .int .i64 d] w (BoolIs true w) := by
  have K0 := Lib.hid (fun wx => small_any wx)
  obtain ⟨fv, hfv⟩ : ∃ fv, fewB ps = fv := ⟨_, rfl⟩
  have K1 : Hid (∀ wx, Below w.heap.size w wx → Calls Try.prog 18 #[.slice C ps.length cc] wx (fun e w' => e = .returned (.bool fv) ∧ wx = w')) := fun wx h => by have := few_any ps C cc wx (hC.below h) hl hn; rw [hfv] at this; exact this
  cases fv
  case false =>
    clear hfv
    go_enter Try.func7, Try.ntmps7
    go_wp2_with (first | (go_at_call 8; ((with_reducible refine (K0.out _).mono ?_); rintro e1 w1 ⟨rfl, hb1⟩)) | (go_at_call 18; ((with_reducible refine (K1.out _ hb1).mono ?_); rintro e2 w2 ⟨rfl, rfl⟩)) | fail)
    go_ret
    exact ⟨rfl, hb1⟩
  by_cases hp8 : 8 < p.length
  · clear hfv
    go_enter Try.func7, Try.ntmps7
    go_wp2_with (first | (go_at_call 8; ((with_reducible refine (K0.out _).mono ?_); rintro e1 w1 ⟨rfl, hb1⟩)) | (go_at_call 18; ((with_reducible refine (K1.out _ hb1).mono ?_); rintro e2 w2 ⟨rfl, rfl⟩)) | fail)
    go_ret
    exact ⟨rfl, hb1⟩
  by_cases ha0 : at1 < 0
  · clear hfv
    go_enter Try.func7, Try.ntmps7
    go_wp2_with (first | (go_at_call 8; ((with_reducible refine (K0.out _).mono ?_); rintro e1 w1 ⟨rfl, hb1⟩)) | (go_at_call 18; ((with_reducible refine (K1.out _ hb1).mono ?_); rintro e2 w2 ⟨rfl, rfl⟩)) | fail)
    go_ret
    exact ⟨rfl, hb1⟩
  by_cases ha1 : (p.length : Int) ≤ at1
  · clear hfv
    go_enter Try.func7, Try.ntmps7
    go_wp2_with (first | (go_at_call 8; ((with_reducible refine (K0.out _).mono ?_); rintro e1 w1 ⟨rfl, hb1⟩)) | (go_at_call 18; ((with_reducible refine (K1.out _ hb1).mono ?_); rintro e2 w2 ⟨rfl, rfl⟩)) | fail)
    go_ret
    exact ⟨rfl, hb1⟩
  by_cases hb0 : d = 0
  · clear hfv
    subst hb0
    go_enter Try.func7, Try.ntmps7
    go_wp2_with (first | (go_at_call 8; ((with_reducible refine (K0.out _).mono ?_); rintro e1 w1 ⟨rfl, hb1⟩)) | (go_at_call 18; ((with_reducible refine (K1.out _ hb1).mono ?_); rintro e2 w2 ⟨rfl, rfl⟩)) | fail)
    go_ret
    exact ⟨rfl, hb1⟩
  have d0 : (d == 0) = false := by rw [beq_eq_false_iff_ne]; exact hb0
  by_cases hb1' : 1125899906842624 < d
  · clear hfv
    go_enter Try.func7, Try.ntmps7
    go_wp2_with (first | (go_at_call 8; ((with_reducible refine (K0.out _).mono ?_); rintro e1 w1 ⟨rfl, hb1⟩)) | (go_at_call 18; ((with_reducible refine (K1.out _ hb1).mono ?_); rintro e2 w2 ⟨rfl, rfl⟩)) | fail)
    go_ret
    exact ⟨rfl, hb1⟩
  by_cases hb2' : d < -1125899906842624
  · clear hfv
    go_enter Try.func7, Try.ntmps7
    go_wp2_with (first | (go_at_call 8; ((with_reducible refine (K0.out _).mono ?_); rintro e1 w1 ⟨rfl, hb1⟩)) | (go_at_call 18; ((with_reducible refine (K1.out _ hb1).mono ?_); rintro e2 w2 ⟨rfl, rfl⟩)) | fail)
    go_ret
    exact ⟨rfl, hb1⟩
  obtain ⟨h8, h12⟩ := few_len hfv
  have hLed := Lib.hid (booked_led ps)
  have hLI := Lib.hid (booked_in h8 hP)
  have hLl := booked_len h8 h12
  have KB := Lib.hid (fun wx (h : Below w.heap.size w wx) => booked_any ps C cc wx (hC.below h) h.size h8 h12 hP)
  generalize bookedR ps = L at hLed hLI hLl KB
  have KB : Hid (∀ wx, Below w.heap.size w wx → Calls Try.prog 19 #[.slice C ps.length cc] wx (fun e w' => ∃ F f, e = .returned (.slice F L.length f) ∧ EntsAt w' w'.heap.size F L ∧ Below wx.heap.size wx w')) := fun wx h => (KB.out wx h).mono fun e w' ⟨F, f, he, _, hF, hb⟩ => ⟨F, f, he, hF, hb⟩
  have hLs : Hid (absS L ≤ 144115188075855872) := small_le hLed.out.ok (by omega)
  have hp8' : p.length ≤ 8 := by omega
  obtain ⟨m, rfl⟩ : ∃ m : Nat, at1 = (m : Int) := ⟨at1.toNat, by omega⟩
  have hml : m < p.length := by omega
  obtain ⟨r, hr⟩ : ∃ r, p[m]? = some r := ⟨_, List.getElem?_eq_getElem hml⟩
  obtain ⟨rl, hrl⟩ : ∃ rl, (postR L p).1 = rl := ⟨_, rfl⟩
  obtain ⟨rn, hrn⟩ : ∃ rn, (postR L p).2 = rn := ⟨_, rfl⟩
  have hpr : postR L p = (rl, rn) := by rw [← hrl, ← hrn]
  have KP : Hid (∀ F f wx, EntsAt wx wx.heap.size F L → Below w.heap.size w wx → Calls Try.prog 9 #[.slice F L.length f, .slice D p.length dc] wx (fun x w' => ∃ F l f, x = .returned (.tuple #[.slice F l f, .int .i64 rn]) ∧ Below wx.heap.size wx w')) := fun F f wx h hb =>
    (post_any L p F D f dc wx h ((hD.below hb).more hb.size) (Nat.le_refl _) (by omega) (by omega) hLI.out hI).mono fun x w' ⟨F, f, he, _, _, _, hb⟩ => by
      rw [hpr] at he
      exact ⟨F, _, f, he, hb⟩
  clear hpr hrl
  by_cases h0 : rn = 0
  case neg =>
    have d1 : (rn == 0) = false := by simpa using h0
    clear hfv hrn hr
    go_enter Try.func7, Try.ntmps7
    go_wp2_with fail
    go_at_call 8
    (with_reducible refine (K0.out _).mono ?_)
    rintro x1 w1 ⟨rfl, hb1⟩
    have hB1 := hb1
    go_wp2_with fail
    go_at_call 18
    (with_reducible refine (K1.out _ hb1).mono ?_)
    rintro x2 w2 ⟨rfl, rfl⟩
    go_wp2_with fail
    go_at_call 19
    (with_reducible refine (KB.out _ hB1).mono ?_)
    rintro x2 w2 ⟨F, f, rfl, hL, hb2⟩
    have hB2 := hB1.trans (hb2.mono hB1.size)
    go_wp2_with fail
    go_at_call 9
    (with_reducible refine (KP.out _ _ _ hL hB2).mono ?_)
    rintro x3 w3 ⟨G, l0, g, rfl, hb3⟩
    have hB3 := hB2.trans (hb3.mono hB2.size)
    replace hL := (hL.below hb3).more hb3.size
    go_wp2_with fail
    go_ret
    exact ⟨rfl, hB3⟩
  subst h0
  obtain ⟨q1, q2, q3, _⟩ := postR_zero hrn
  obtain ⟨pne, pin, psum⟩ := postB_parts q1
  have hrb := okE_all (pin r (List.mem_of_getElem? hr)).1
  have hlit : ∀ e ∈ p, -1125899906842624 ≤ e.litres ∧ e.litres ≤ 1125899906842624 := fun e he => by have := okE_all (pin e he).1; omega
  have hkn := Lib.hid (fun (e : Et) (he : e ∈ p) => okE_all (pin e he).1)
  obtain ⟨b, off, rfl, hx0⟩ := hD.head_ pne
  have hne : p.length ≠ 0 := by omega
  have KX : ∀ (q : List Et), q.length ≤ 8 → LitsIn q → ∀ F f D dc wx, EntsAt wx wx.heap.size F L → EntsAt wx wx.heap.size D q → Calls Try.prog 9 #[.slice F L.length f, .slice D q.length dc] wx (fun x w' => ∃ F l f, x = .returned (.tuple #[.slice F l f, .int .i64 (postR L q).2]) ∧ Below wx.heap.size wx w') := fun q h8 hq F f D dc wx h1 h2 =>
    (post_any L q F D f dc wx h1 h2 (Nat.le_refl _) (by omega) (by omega) hLI.out hq).mono fun x w' ⟨F, f, he, _, _, _, hb⟩ => ⟨F, _, f, he, hb⟩
  have KQ1 : Hid (∀ F f D dc wx, EntsAt wx wx.heap.size F L → EntsAt wx wx.heap.size D (p.set m (addV d r)) → Calls Try.prog 9 #[.slice F L.length f, .slice D p.length dc] wx (fun x w' => ∃ F l f, x = .returned (.tuple #[.slice F l f, .int .i64 1]) ∧ Below wx.heap.size wx w')) := fun F f D dc wx h1 h2 => by
    have := KX (p.set m (addV d r)) (by simpa using hp8') (fun e he => by
      rcases List.mem_or_eq_of_mem_set he with h | rfl
      · exact hI e h
      · have h := hrb; show In64 (r.litres + d); unfold In64; omega) F f D dc wx h1 h2
    rw [postR_arg1 (one_no q1 hr hb0), List.length_set] at this
    exact this
  obtain ⟨n2, hn2⟩ : ∃ n2, (p.take m ++ p.drop (m + 1)).length = n2 := ⟨_, rfl⟩
  obtain ⟨rn2, hrn2⟩ : ∃ rn2, (postR L (p.take m ++ p.drop (m + 1))).2 = rn2 := ⟨_, rfl⟩
  have KQ2 : Hid (∀ F f D dc wx, EntsAt wx wx.heap.size F L → EntsAt wx wx.heap.size D (p.take m ++ p.drop (m + 1)) → Calls Try.prog 9 #[.slice F L.length f, .slice D n2 dc] wx (fun x w' => ∃ F l f, x = .returned (.tuple #[.slice F l f, .int .i64 rn2]) ∧ Below wx.heap.size wx w')) := fun F f D dc wx h1 h2 => by
    have := KX (p.take m ++ p.drop (m + 1)) (by simp; omega) (fun e he => hI e (cut_mem he)) F f D dc wx h1 h2
    rw [hrn2, hn2] at this
    exact this
  obtain ⟨rn3, hrn3⟩ : ∃ rn3, (postR L (p.set m (addD r))).2 = rn3 := ⟨_, rfl⟩
  have KQ3 : Hid (∀ F f D dc wx, EntsAt wx wx.heap.size F L → EntsAt wx wx.heap.size D (p.set m (addD r)) → Calls Try.prog 9 #[.slice F L.length f, .slice D p.length dc] wx (fun x w' => ∃ F l f, x = .returned (.tuple #[.slice F l f, .int .i64 rn3]) ∧ Below wx.heap.size wx w')) := fun F f D dc wx h1 h2 => by
    have := KX (p.set m (addD r)) (by simpa using hp8') (fun e he => by
      rcases List.mem_or_eq_of_mem_set he with h | rfl
      · exact hI e h
      · exact hI r (List.mem_of_getElem? hr)) F f D dc wx h1 h2
    rw [hrn3, List.length_set] at this
    exact this
  obtain ⟨rn4, hrn4⟩ : ∃ rn4, (postR L (p.map decK)).2 = rn4 := ⟨_, rfl⟩
  have KQ4 : Hid (∀ F f D dc wx, EntsAt wx wx.heap.size F L → EntsAt wx wx.heap.size D (p.map decK) → Calls Try.prog 9 #[.slice F L.length f, .slice D p.length dc] wx (fun x w' => ∃ F l f, x = .returned (.tuple #[.slice F l f, .int .i64 rn4]) ∧ Below wx.heap.size wx w')) := fun F f D dc wx h1 h2 => by
    have := KX (p.map decK) (by simpa using hp8') (fun e he => by
      obtain ⟨x, hx, rfl⟩ := List.mem_map.1 he
      exact hI x hx) F f D dc wx h1 h2
    rw [hrn4, List.length_map] at this
    exact this
  obtain ⟨bz, z1⟩ : ∃ bz, (r.litres == 0) = bz := ⟨_, rfl⟩
  obtain ⟨bn, z2⟩ : ∃ bn, ((p.length : Int) == 1) = bn := ⟨_, rfl⟩
  have e2 : (rn2 == 1) = (!bz || bn) := by
    by_cases hor : r.litres ≠ 0 ∨ p.length = 1
    · rw [← hrn2, two_yes hr q1 hor]
      rcases hor with h | h
      · rw [← z1, show (r.litres == 0) = false by simpa using h]; rfl
      · rw [← z2, show ((p.length : Int) == 1) = true by rw [beq_iff_eq]; omega]; simp
    · have h1 : r.litres = 0 := Classical.byContradiction fun g => hor (.inl g)
      have h2 : p.length ≠ 1 := fun g => hor (.inr g)
      rw [← hrn2, two_no hr q1 q2 q3 h1 h2, ← z1, ← z2, show (r.litres == 0) = true by simpa using h1, show ((p.length : Int) == 1) = false by rw [beq_eq_false_iff_ne]; omega]; rfl
  obtain ⟨b3, z3⟩ : ∃ b3, (rn3 == 1) = b3 := ⟨_, rfl⟩
  have e3 : bn = false → b3 = true := fun hb => by
    rw [hb, beq_eq_false_iff_ne] at z2
    rw [← z3, ← hrn3, postR_arg1 (three_no q1 hr (by omega))]; rfl
  have e4 : Hid (L ≠ [] → 0 ≤ (p.headD default).known - 1 → (p.headD default).known - 1 < (L.getLastD default).known → rn4 = 15) := fun h1 h2 h3 => by rw [← hrn4]; exact four_late q1 h1 h2 h3
  have E2 := Lib.hid e2
  have E3 := Lib.hid e3
  have Z1 := Lib.hid z1
  have Z2 := Lib.hid z2
  have Z3 := Lib.hid z3
  have HHd : Hid (p[0]? = some (p.headD default)) := hx0
  have HR := Lib.hid hr
  have HL2 : Hid ((p.take m ++ p.drop (m + 1)).length = n2) := hn2
  have HN2 : Hid (n2 = 0 + m + (p.length - (m + 1))) := by show _ = _; rw [← hn2]; simp; omega
  have rwv : IntKind.i64.wrap (r.litres + d) = r.litres + d := wrap_small (by omega) (by omega)
  have rwd : IntKind.i64.wrap (r.day + 1) = r.day + 1 := wrap_small (by omega) (by omega)
  have hDH := Lib.hid hD
  have hc1 : m ≤ dc := by omega
  have hc2 : m + 1 ≤ p.length := by omega
  have hc3 : (0 : Int) ≤ (m : Int) := by omega
  have hc4 : (m : Int) ≤ (dc : Int) := by omega
  have hc5 : (0 : Int) ≤ (m : Int) + 1 := by omega
  have hc6 : (m : Int) + 1 ≤ (p.length : Int) := by omega
  have hc7 : (m : Int) < (p.length : Int) := by omega
  have hw1 : IntKind.i64.wrap ((m : Int) + 1) = (m : Int) + 1 := wrap_small (by omega) (by omega)
  have hp0 : ((p.length : Int) == 0) = false := by rw [beq_eq_false_iff_ne]; omega
  clear hfv hrn hr q1 q2 q3 pin psum hrb hlit hx0 KX hn2 hrn2 hrn3 hrn4 z1 z2 z3 e2 e3 hP hn h8 hC hD hI
  obtain ⟨i0, hi, hz0, hz1, hz2⟩ := info_parts Try.infoEntry
  go_enter Try.func7, Try.ntmps7
  go_wp2_with fail
  go_at_call 8
  (with_reducible refine (K0.out _).mono ?_)
  rintro x1 w1 ⟨rfl, hb1⟩
  have hB1 := hb1
  go_wp2_with fail
  go_at_call 18
  (with_reducible refine (K1.out _ hb1).mono ?_)
  rintro x2 w2 ⟨rfl, rfl⟩
  go_wp2_with fail
  go_at_call 19
  (with_reducible refine (KB.out _ hB1).mono ?_)
  rintro x2 w2 ⟨F, f, rfl, hL, hb2⟩
  have hB2 := hB1.trans (hb2.mono hB1.size)
  go_wp2_with fail
  go_at_call 9
  (with_reducible refine (KP.out _ _ _ hL hB2).mono ?_)
  rintro x3 w3 ⟨G, l0, g, rfl, hb3⟩
  have hB3 := hB2.trans (hb3.mono hB2.size)
  replace hL := (hL.below hb3).more hb3.size
  clear hb1 hb2 hb3 hB1 hB2 K0 K1 KB KP
  have hO4 : (w3.alloc (.cells #[] 36)).ownsRow w3.heap.size 36 7 (.slice (some ⟨w3.heap.size, 0, none⟩) 0 0) 0 [] := World.ownsRow_made w3 #[] 0 (Nat.le_refl _) (by unfold maxLen; omega) (by simp)
  have hA4 := below_new w3 (.cells #[] 36)
  have R4 := Lib.hid (reads_ents ((hDH.out.below (hB3.trans (hA4.mono hB3.size))).more (hB3.trans (hA4.mono hB3.size)).size))
  go_wp2_with (first | (at_builtin; refine wpList_append_any _ rfl _ _ 22 rfl w3.heap.size 36 i0 _ 7 56 Try.underlying22 hi hz0 hz1 hz2 rfl (by decide) _ 0 [] rfl hO4 _ (some ⟨b, off, none⟩) p.length dc (rowE p) rfl R4.out (rowE_one p) (by unfold maxLen; omega) (by omega) (by simp) ?_; intro v4 w4 hown4 hgr4 hob4; clear hob4; have hS4 := hA4.trans (below_own hO4 (by simp) hgr4); rw [Nat.zero_add, List.nil_append] at hown4; obtain ⟨g4, c4, rfl, hg14, hg24, hg34⟩ := entsArr_of_owns hne hown4; clear hown4 hgr4; have c4 := (hg34 m r HR.out 4 _ rfl).1; have f4 := (hg34 m r HR.out 4 _ rfl).2) | fail)
  have hE4 : ArrE (w4.setCell ⟨g4, m * 7 + 4, none⟩ (.int .i64 (r.litres + d))) g4 (p.set m (addV d r)) := ArrE.set hg34 HR.out rfl (fun j hj => by
    match j, hj with
    | 0, _ => rfl
    | 1, _ => rfl
    | 2, _ => rfl
    | 3, _ => rfl
    | 4, h => exact absurd rfl h
    | 5, _ => rfl
    | 6, _ => rfl
    | n + 7, _ => rfl)
  have hT4 := hS4.setCell (p := ⟨g4, m * 7 + 4, none⟩) hg14 (.int .i64 (r.litres + d))
  go_at_call 9
  (with_reducible refine (KQ1.out _ _ _ _ _ ((hL.below hT4).more hT4.size) (hE4.ents (by simpa using hg24))).mono ?_)
  rintro x5 w5 ⟨G5, l5, h5, rfl, hb5⟩
  have hQ5 := hT4.trans (hb5.mono hT4.size)
  have hB5 := hB3.trans (hQ5.mono hB3.size)
  replace hL := (hL.below hQ5).more hQ5.size
  clear hO4 hA4 R4 hS4 hg14 hg24 hg34 c4 f4 hE4 hT4 hb5 hQ5 KQ1
  go_upto_region 11 with fail
  have hDw : EntsAt w5 w5.heap.size (some ⟨b, off, none⟩) p := (hDH.out.below hB5).more hB5.size
  have hlt1 : Hid ((p.take m).length = m) := by show _ = _; simp; omega
  have hld1 : Hid ((p.drop (m + 1)).length = p.length - (m + 1)) := by show _ = _; simp
  have hT7 := ents_take hDw m
  have hQ7 := ents_drop hDw (k := m + 1) (cf := dc) (by omega) hcap
  refine Plan.wp_region_tree (.rd 1 (.rd 2 (.rd 3 (.rd 5 (.rd 6 (.rd 7 (.rd 8 (.wr 0 (.wr 4 (.wr 9 (.rd 10 .done))))))))))) (by kernel_rfl) (by kernel_rfl) ?_
  (repeat (first | (refine Plan.tree_read (v := ?_) rfl rfl ?_ ?_; rotate_left; (focus ((intro wS hSw; have hkS := (bcell hSw).1; go_simp); try with_reducible rfl)); simp only [Act.put, List.setIfInBounds_toArray, List.set_cons_zero, List.set_cons_succ]) | (refine Plan.tree_skip rfl rfl ?_; simp only [Act.put, List.setIfInBounds_toArray, List.set_cons_zero, List.set_cons_succ])))
  have kB30 : Below w5.heap.size w5 (w5.alloc (.cells #[] 36)).drew := ((Below.refl _ _).alloc (Nat.le_refl _) _).drew
  have kO30 : ((w5.alloc (.cells #[] 36)).drew).ownsRow w5.heap.size 36 7 (.slice (some ⟨w5.heap.size, 0, none⟩) 0 0) 0 [] := (World.ownsRow_made w5 #[] 0 (Nat.le_refl _) (by unfold maxLen; omega) (by simp)).drew
  (refine Plan.tree_write rfl (fun K hK => ?_); try go_simp)
  (refine hK.out _ _ (kB30) ?_; clear hK K; try simp only [Act.put, List.setIfInBounds_toArray, List.set_cons_zero, List.set_cons_succ])
  (repeat (first | (refine Plan.tree_read (v := ?_) rfl rfl ?_ ?_; rotate_left; (focus ((intro wS hSw; have hkS := (bcell hSw).1; go_simp); try with_reducible rfl)); simp only [Act.put, List.setIfInBounds_toArray, List.set_cons_zero, List.set_cons_succ]) | (refine Plan.tree_skip rfl rfl ?_; simp only [Act.put, List.setIfInBounds_toArray, List.set_cons_zero, List.set_cons_succ])))
  refine Plan.tree_write rfl (fun K hK => ?_)
  refine step_append_any _ (by rfl) _ _ _ (by rfl) w5.heap.size 36 i0 _ 7 56 Try.underlying22 hi hz0 hz1 hz2 rfl (by omega) _ 0 [] (by rfl) kO30 w5.heap.size (some ⟨b, off, none⟩) m dc (rowE (p.take m)) (by rfl) (by have := reads_ents (hT7.below kB30); rw [hlt1.out] at this; exact this) (rowE_one _) (by unfold maxLen; omega) (by omega) (by simp) ?_
  intro v31 w31 hown31 hgr31 hob31
  have kB31 : Below w5.heap.size w5 w31 := kB30.trans (below_own kO30 (by simp) hgr31)
  (refine hK.out _ _ (kB31) ?_; clear hK K; try simp only [Act.put, List.setIfInBounds_toArray, List.set_cons_zero, List.set_cons_succ])
  (repeat (first | (refine Plan.tree_read (v := ?_) rfl rfl ?_ ?_; rotate_left; (focus ((intro wS hSw; have hkS := (bcell hSw).1; go_simp); try with_reducible rfl)); simp only [Act.put, List.setIfInBounds_toArray, List.set_cons_zero, List.set_cons_succ]) | (refine Plan.tree_skip rfl rfl ?_; simp only [Act.put, List.setIfInBounds_toArray, List.set_cons_zero, List.set_cons_succ])))
  refine Plan.tree_write rfl (fun K hK => ?_)
  refine step_append_any _ (by rfl) _ _ _ (by rfl) w5.heap.size 36 i0 _ 7 56 Try.underlying22 hi hz0 hz1 hz2 rfl (by omega) _ (0 + m) ([] ++ rowE (p.take m)) (by rfl) hown31 w5.heap.size (if dc = m + 1 then some ⟨b, off, none⟩ else some ⟨b, off + (m + 1) * 7, none⟩) (p.length - (m + 1)) (dc - (m + 1)) (rowE (p.drop (m + 1))) (by rfl) (by have := reads_ents (hQ7.below kB31); rw [hld1.out] at this; exact this) (rowE_one _) (by unfold maxLen; omega) (by omega) kB31.size ?_
  intro v32 w32 hown32 hgr32 hob32
  have kB32 : Below w5.heap.size w5 w32 := kB31.trans (below_own hown31 kB31.size hgr32)
  rw [← HN2.out, List.nil_append, ← rowE_append, ← HL2.out] at hown32
  obtain ⟨F8, cf8, e8, hF8, _⟩ := ents_of_owns hown32
  rw [HL2.out] at e8
  subst e8
  (refine hK.out _ _ (kB32) ?_; clear hK K; try simp only [Act.put, List.setIfInBounds_toArray, List.set_cons_zero, List.set_cons_succ])
  (repeat (first | (refine Plan.tree_read (v := ?_) rfl rfl ?_ ?_; rotate_left; (focus ((intro wS hSw; have hkS := (bcell hSw).1; go_simp); try with_reducible rfl)); simp only [Act.put, List.setIfInBounds_toArray, List.set_cons_zero, List.set_cons_succ]) | (refine Plan.tree_skip rfl rfl ?_; simp only [Act.put, List.setIfInBounds_toArray, List.set_cons_zero, List.set_cons_succ])))
  refine Plan.tree_done ?_
  generalize (if dc = m + 1 then some (⟨b, off, none⟩ : Addr) else some ⟨b, off + (m + 1) * 7, none⟩) = AD
  have hT6 := kB32
  clear kB30 kO30 kB31 kB32 hown31 hown32 hob31 hob32 hgr31 hgr32 hT7 hQ7 hDw hlt1 hld1 HN2 HL2
  go_wp2_with fail
  go_at_call 9
  (with_reducible refine (KQ2.out _ _ _ _ _ ((hL.below hT6).more hT6.size) (hF8)).mono ?_)
  rintro x7 w7 ⟨G7, l7, h7, rfl, hb7⟩
  have hQ7 := hT6.trans (hb7.mono hT6.size)
  have hB7 := hB5.trans (hQ7.mono hB5.size)
  replace hL := (hL.below hQ7).more hQ7.size
  clear hT6 hb7 hQ7 KQ2 hF8
  have hO8 : (w7.alloc (.cells #[] 36)).ownsRow w7.heap.size 36 7 (.slice (some ⟨w7.heap.size, 0, none⟩) 0 0) 0 [] := World.ownsRow_made w7 #[] 0 (Nat.le_refl _) (by unfold maxLen; omega) (by simp)
  have hA8 := below_new w7 (.cells #[] 36)
  have R8 := Lib.hid (reads_ents ((hDH.out.below (hB7.trans (hA8.mono hB7.size))).more (hB7.trans (hA8.mono hB7.size)).size))
  go_wp2_with (first | (at_builtin; refine wpList_append_any _ rfl _ _ 22 rfl w7.heap.size 36 i0 _ 7 56 Try.underlying22 hi hz0 hz1 hz2 rfl (by decide) _ 0 [] rfl hO8 _ (some ⟨b, off, none⟩) p.length dc (rowE p) rfl R8.out (rowE_one p) (by unfold maxLen; omega) (by omega) (by simp) ?_; intro v8 w8 hown8 hgr8 hob8; clear hob8; have hS8 := hA8.trans (below_own hO8 (by simp) hgr8); rw [Nat.zero_add, List.nil_append] at hown8; obtain ⟨g8, c8, rfl, hg18, hg28, hg38⟩ := entsArr_of_owns hne hown8; clear hown8 hgr8; have c8 : w8.cell? ⟨g8, m * 7, none⟩ = some (.int .i64 r.day) := (hg38 m r HR.out 0 _ rfl).1; have f8 : w8.frozen? ⟨g8, m * 7, none⟩ = false := (hg38 m r HR.out 0 _ rfl).2) | fail)
  have hE8 : ArrE (w8.setCell ⟨g8, m * 7, none⟩ (.int .i64 (r.day + 1))) g8 (p.set m (addD r)) := ArrE.set (j0 := 0) hg38 HR.out rfl (fun j hj => by
    match j, hj with
    | 0, h => exact absurd rfl h
    | 1, _ => exact rfl
    | 2, _ => exact rfl
    | 3, _ => exact rfl
    | 4, _ => exact rfl
    | 5, _ => exact rfl
    | 6, _ => exact rfl
    | n + 7, _ => rfl)
  have hT8 := hS8.setCell (p := ⟨g8, m * 7, none⟩) hg18 (.int .i64 (r.day + 1))
  go_at_call 9
  (with_reducible refine (KQ3.out _ _ _ _ _ ((hL.below hT8).more hT8.size) (hE8.ents (by simpa using hg28))).mono ?_)
  rintro x9 w9 ⟨G9, l9, h9, rfl, hb9⟩
  have hQ9 := hT8.trans (hb9.mono hT8.size)
  have hB9 := hB7.trans (hQ9.mono hB7.size)
  replace hL := (hL.below hQ9).more hQ9.size
  clear hO8 hA8 R8 hS8 hg18 hg28 hg38 c8 f8 hE8 hT8 hb9 hQ9 KQ3
  have hO10 : (w9.alloc (.cells #[] 36)).ownsRow w9.heap.size 36 7 (.slice (some ⟨w9.heap.size, 0, none⟩) 0 0) 0 [] := World.ownsRow_made w9 #[] 0 (Nat.le_refl _) (by unfold maxLen; omega) (by simp)
  have hA10 := below_new w9 (.cells #[] 36)
  have R10 := Lib.hid (reads_ents ((hDH.out.below (hB9.trans (hA10.mono hB9.size))).more (hB9.trans (hA10.mono hB9.size)).size))
  go_wp2_with (first | (at_builtin; refine wpList_append_any _ rfl _ _ 22 rfl w9.heap.size 36 i0 _ 7 56 Try.underlying22 hi hz0 hz1 hz2 rfl (by decide) _ 0 [] rfl hO10 _ (some ⟨b, off, none⟩) p.length dc (rowE p) rfl R10.out (rowE_one p) (by unfold maxLen; omega) (by omega) (by simp) ?_; intro v10 w10 hown10 hgr10 hob10; clear hob10; have hS10 := hA10.trans (below_own hO10 (by simp) hgr10); rw [Nat.zero_add, List.nil_append] at hown10; obtain ⟨g10, c10, rfl, hg110, hg210, hg310⟩ := entsArr_of_owns hne hown10; clear hown10 hgr10) | fail)
  have HA10 := Lib.hid hg310
  have hg1' := hg110
  have hg2' := hg210
  have hS10' := hS10
  have hL10 := (hL.below hS10).more hS10.size
  have hB10 := Lib.hid (hB9.trans (hS10.mono hB9.size))
  clear hO10 hA10 R10 hg310
  go_loopg [23] p.length (fun gq i wr => ∃ k : Nat, i = .int .i64 k ∧ gq + k = p.length ∧ ArrE wr g10 (decT p k) ∧ Below w9.heap.size w9 wr)
  case atStart => exact ⟨0, rfl, by omega, HA10.out, hS10'⟩
  case round =>
    obtain ⟨k, rfl, hk, hArr, hBw⟩ := hrel
    by_cases hlt : k < p.length
    · obtain ⟨e, he⟩ : ∃ e, p[k]? = some e := ⟨_, List.getElem?_eq_getElem hlt⟩
      have hd := decT_at he
      have c1 : wr.cell? ⟨g10, k * 7 + 1, none⟩ = some (.int .i64 e.known) := (hArr k e hd 1 _ rfl).1
      have f1 : wr.frozen? ⟨g10, k * 7 + 1, none⟩ = false := (hArr k e hd 1 _ rfl).2
      have hkb := hkn.out e (List.mem_of_getElem? he)
      have rwk : IntKind.i64.wrap (e.known - 1) = e.known - 1 := wrap_small (by omega) (by omega)
      have hE : Hid (ArrE (wr.setCell ⟨g10, k * 7 + 1, none⟩ (.int .i64 (e.known - 1))) g10 (decT p (k + 1))) := by
        show ArrE _ _ _
        rw [decT_succ he]
        exact ArrE.set (j0 := 1) hArr hd rfl (fun j hj => by
        match j, hj with
        | 0, _ => exact rfl
        | 1, h => exact absurd rfl h
        | 2, _ => exact rfl
        | 3, _ => exact rfl
        | 4, _ => exact rfl
        | 5, _ => exact rfl
        | 6, _ => exact rfl
        | n + 7, _ => rfl)
      have hBs := hBw.setCell (p := ⟨g10, k * 7 + 1, none⟩) hg1' (.int .i64 (e.known - 1))
      have hlc : (k : Int) < (p.length : Int) := by omega
      clear hd he hkb hArr hBw
      go_wp2_with fail
      go_roundg (gk - 1)
      case measure => omega
      case rel => exact ⟨k + 1, by go_num, by omega, hE.out, hBs⟩
    · obtain rfl : k = p.length := by omega
      rw [decT_end] at hArr
      have hh : (p.map decK)[0]? = some (decK (p.headD default)) := by rw [List.getElem?_map, HHd.out]; rfl
      have k1 := (hArr 0 _ hh 1 _ rfl).1
      have hgw : g10 < wr.heap.size := World.block_lt_of_cell? wr _ k1
      have hT11 := hBw
      go_wp2_with fail
      go_at_call 9
      (with_reducible refine (KQ4.out _ _ _ _ _ ((hL.below hT11).more hT11.size) (hArr.ents hgw)).mono ?_)
      rintro x11 w11 ⟨G11, l11, h11, rfl, hb11⟩
      have hQ11 := hT11.trans (hb11.mono hT11.size)
      have hB11 := hB9.trans (hQ11.mono hB9.size)
      replace hL := (hL.below hQ11).more hQ11.size
      have k1 : w11.cell? ⟨g10, 1, none⟩ = some (.int .i64 ((p.headD default).known - 1)) := (hb11.cell (p := ⟨g10, 1, none⟩) hgw).trans k1
      obtain ⟨hbb, _, _, _, _, y4, _⟩ := (hDH.out.below hB11).cell_ HR.out
      have hbb1 : b < w11.heap.size := by have := hB11.size; omega
      have hgw1 : g10 < w11.heap.size := by have := hb11.size; omega
      clear hArr hh hBw hT11 hb11 hQ11 KQ4 hlt hk
      generalize (p.headD default).known - 1 = hk at k1 e4
      go_upto_region 22 with fail
      have kB0 : Below w11.heap.size w11 w11.drew := (Below.refl _ _).drew
      have hl0 : (0 : Int) < (p.length : Int) := by omega
      have hl0n : 0 < p.length := by omega
      by_cases hn0 : L.length = 0
      · have d5 : decide ((0 : Int) < (L.length : Int)) = false := decide_eq_false (by omega)
        have d5' : ¬ (0 : Int) < (L.length : Int) := by omega
        refine Plan.wp_region_tree (.rd 0 (.rd 1 (.rd 2 (.rd 3 (.rd 4 (.rd 5 (.rd 6 (.rd 7 (.rd 8 (.rd 9 (.rd 10 (.rd 11 (.rd 12 (.rd 13 (.rd 14 (.rd 15 (.rd 16 (.rd 17 (.rd 18 (.rd 19 (.rd 20 (.rd 21 (.rd 22 (.rd 23 (.rd 24 .done))))))))))))))))))))))))) (by kernel_rfl) (by kernel_rfl) ?_
        (repeat (first | (refine Plan.tree_read (v := ?_) rfl rfl ?_ ?_; rotate_left; (focus ((intro wS hSw; have hkS := (bcell hSw).1; go_simp); try with_reducible rfl)); simp only [Act.put, List.setIfInBounds_toArray, List.set_cons_zero, List.set_cons_succ]) | (refine Plan.tree_skip rfl rfl ?_; simp only [Act.put, List.setIfInBounds_toArray, List.set_cons_zero, List.set_cons_succ])))
        refine Plan.tree_done ?_
        have z1 := Z1.out
        have z2 := Z2.out
        have z3 := Z3.out
        have e2 := E2.out
        cases bn
        · obtain rfl : b3 = true := E3.out rfl
          obtain rfl : rn3 = 1 := by simpa using z3
          have y2 : ¬ (p.length : Int) = 1 := by simpa using z2
          clear E2 E3 Z1 Z2 Z3
          cases bz
          · obtain rfl : rn2 = 1 := by simpa using e2
            have y1 : ¬ r.litres = 0 := by simpa using z1
            clear e2
            go_wp2_with fail
            go_ret
            exact ⟨rfl, hB11.drew⟩
          · have y3 : ¬ rn2 = 1 := by simpa using e2
            replace e2 : (rn2 == 1) = false := e2
            have y1 : r.litres = 0 := by simpa using z1
            clear z1
            go_wp2_with fail
            go_ret
            exact ⟨rfl, hB11.drew⟩
        · obtain rfl : rn2 = 1 := by simpa using e2
          clear e2
          clear E2 E3 Z1 Z2 Z3 z1 z3
          go_wp2_with fail
          all_goals (go_ret; exact ⟨rfl, hB11.drew⟩)
      have hLne : L ≠ [] := fun e => hn0 (by rw [e]; rfl)
      have d5 : decide ((0 : Int) < (L.length : Int)) = true := decide_eq_true (by omega)
      have d5' : (0 : Int) < (L.length : Int) := by omega
      have d5n : decide (0 < L.length) = true := decide_eq_true (by omega)
      have d5m : 0 < L.length := by omega
      by_cases hk0 : 0 ≤ hk
      case neg =>
        have d6 : decide (0 ≤ hk) = false := decide_eq_false hk0
        refine Plan.wp_region_tree (.rd 0 (.rd 1 (.rd 2 (.rd 3 (.rd 4 (.rd 5 (.rd 6 (.rd 7 (.rd 8 (.rd 9 (.rd 10 (.rd 11 (.rd 12 (.rd 13 (.rd 14 (.rd 15 (.rd 16 (.rd 17 (.rd 18 (.rd 19 (.rd 20 (.rd 21 (.rd 22 (.rd 23 (.rd 24 .done))))))))))))))))))))))))) (by kernel_rfl) (by kernel_rfl) ?_
        (repeat (first | (refine Plan.tree_read (v := ?_) rfl rfl ?_ ?_; rotate_left; (focus ((intro wS hSw; have hkS := (bcell hSw).1; go_simp); try with_reducible rfl)); simp only [Act.put, List.setIfInBounds_toArray, List.set_cons_zero, List.set_cons_succ]) | (refine Plan.tree_skip rfl rfl ?_; simp only [Act.put, List.setIfInBounds_toArray, List.set_cons_zero, List.set_cons_succ])))
        refine Plan.tree_done ?_
        have z1 := Z1.out
        have z2 := Z2.out
        have z3 := Z3.out
        have e2 := E2.out
        cases bn
        · obtain rfl : b3 = true := E3.out rfl
          obtain rfl : rn3 = 1 := by simpa using z3
          have y2 : ¬ (p.length : Int) = 1 := by simpa using z2
          clear E2 E3 Z1 Z2 Z3
          cases bz
          · obtain rfl : rn2 = 1 := by simpa using e2
            have y1 : ¬ r.litres = 0 := by simpa using z1
            clear e2
            go_wp2_with fail
            go_ret
            exact ⟨rfl, hB11.drew⟩
          · have y3 : ¬ rn2 = 1 := by simpa using e2
            replace e2 : (rn2 == 1) = false := e2
            have y1 : r.litres = 0 := by simpa using z1
            clear z1
            go_wp2_with fail
            go_ret
            exact ⟨rfl, hB11.drew⟩
        · obtain rfl : rn2 = 1 := by simpa using e2
          clear e2
          clear E2 E3 Z1 Z2 Z3 z1 z3
          go_wp2_with fail
          all_goals (go_ret; exact ⟨rfl, hB11.drew⟩)
      have d6 : decide (0 ≤ hk) = true := decide_eq_true hk0
      obtain ⟨bF, oF, rfl, _⟩ := hL.head_ hLne
      obtain ⟨j, hj⟩ : ∃ j, L.length = j + 1 := ⟨L.length - 1, by omega⟩
      obtain ⟨q, hq⟩ : ∃ q, L[j]? = some q := ⟨_, List.getElem?_eq_getElem (by omega)⟩
      have hlast : L.getLastD default = q := by
        rw [List.getLastD_eq_getLast?, List.getLast?_eq_getElem?, show L.length - 1 = j by omega, hq]; rfl
      obtain ⟨hbF, _, l1', _⟩ := hL.cell_ hq
      have v1 : IntKind.i64.wrap ((L.length : Int) - 1) = (j : Int) := by rw [IntKind.wrap_i64]; omega
      have v2 : (L.length : Int) - 1 = (j : Int) := by omega
      have v3 : IntKind.i64.wrap (j : Int) = (j : Int) := by rw [IntKind.wrap_i64]; omega
      have v4 : (j : Int) < (L.length : Int) := by omega
      have v5 : j < L.length := by omega
      have v6 : (0 : Int) ≤ (j : Int) := by omega
      rw [hlast] at e4
      clear hj hq hlast hn0
      by_cases hkq : hk < q.known
      · have e15 := e4.out hLne hk0 hkq
        subst e15
        have d7 : decide (hk < q.known) = true := decide_eq_true hkq
        refine Plan.wp_region_tree (.rd 0 (.rd 1 (.rd 2 (.rd 3 (.rd 4 (.rd 5 (.rd 6 (.rd 7 (.rd 8 (.rd 9 (.rd 10 (.rd 11 (.rd 12 (.rd 13 (.rd 14 (.rd 15 (.rd 16 (.rd 17 (.rd 18 (.rd 19 (.rd 20 (.rd 21 (.rd 22 (.rd 23 (.rd 24 .done))))))))))))))))))))))))) (by kernel_rfl) (by kernel_rfl) ?_
        (repeat (first | (refine Plan.tree_read (v := ?_) rfl rfl ?_ ?_; rotate_left; (focus ((intro wS hSw; have hkS := (bcell hSw).1; go_simp); try with_reducible rfl)); simp only [Act.put, List.setIfInBounds_toArray, List.set_cons_zero, List.set_cons_succ]) | (refine Plan.tree_skip rfl rfl ?_; simp only [Act.put, List.setIfInBounds_toArray, List.set_cons_zero, List.set_cons_succ])))
        refine Plan.tree_done ?_
        have z1 := Z1.out
        have z2 := Z2.out
        have z3 := Z3.out
        have e2 := E2.out
        cases bn
        · obtain rfl : b3 = true := E3.out rfl
          obtain rfl : rn3 = 1 := by simpa using z3
          have y2 : ¬ (p.length : Int) = 1 := by simpa using z2
          clear E2 E3 Z1 Z2 Z3
          cases bz
          · obtain rfl : rn2 = 1 := by simpa using e2
            have y1 : ¬ r.litres = 0 := by simpa using z1
            clear e2
            go_wp2_with fail
            go_ret
            exact ⟨rfl, hB11.drew⟩
          · have y3 : ¬ rn2 = 1 := by simpa using e2
            replace e2 : (rn2 == 1) = false := e2
            have y1 : r.litres = 0 := by simpa using z1
            clear z1
            go_wp2_with fail
            go_ret
            exact ⟨rfl, hB11.drew⟩
        · obtain rfl : rn2 = 1 := by simpa using e2
          clear e2
          clear E2 E3 Z1 Z2 Z3 z1 z3
          go_wp2_with fail
          all_goals (go_ret; exact ⟨rfl, hB11.drew⟩)
      · have d7 : decide (hk < q.known) = false := decide_eq_false hkq
        refine Plan.wp_region_tree (.rd 0 (.rd 1 (.rd 2 (.rd 3 (.rd 4 (.rd 5 (.rd 6 (.rd 7 (.rd 8 (.rd 9 (.rd 10 (.rd 11 (.rd 12 (.rd 13 (.rd 14 (.rd 15 (.rd 16 (.rd 17 (.rd 18 (.rd 19 (.rd 20 (.rd 21 (.rd 22 (.rd 23 (.rd 24 .done))))))))))))))))))))))))) (by kernel_rfl) (by kernel_rfl) ?_
        (repeat (first | (refine Plan.tree_read (v := ?_) rfl rfl ?_ ?_; rotate_left; (focus ((intro wS hSw; have hkS := (bcell hSw).1; go_simp); try with_reducible rfl)); simp only [Act.put, List.setIfInBounds_toArray, List.set_cons_zero, List.set_cons_succ]) | (refine Plan.tree_skip rfl rfl ?_; simp only [Act.put, List.setIfInBounds_toArray, List.set_cons_zero, List.set_cons_succ])))
        refine Plan.tree_done ?_
        have z1 := Z1.out
        have z2 := Z2.out
        have z3 := Z3.out
        have e2 := E2.out
        cases bn
        · obtain rfl : b3 = true := E3.out rfl
          obtain rfl : rn3 = 1 := by simpa using z3
          have y2 : ¬ (p.length : Int) = 1 := by simpa using z2
          clear E2 E3 Z1 Z2 Z3
          cases bz
          · obtain rfl : rn2 = 1 := by simpa using e2
            have y1 : ¬ r.litres = 0 := by simpa using z1
            clear e2
            go_wp2_with fail
            go_ret
            exact ⟨rfl, hB11.drew⟩
          · have y3 : ¬ rn2 = 1 := by simpa using e2
            replace e2 : (rn2 == 1) = false := e2
            have y1 : r.litres = 0 := by simpa using z1
            clear z1
            go_wp2_with fail
            go_ret
            exact ⟨rfl, hB11.drew⟩
        · obtain rfl : rn2 = 1 := by simpa using e2
          clear e2
          clear E2 E3 Z1 Z2 Z3 z1 z3
          go_wp2_with fail
          all_goals (go_ret; exact ⟨rfl, hB11.drew⟩)
end Go.Proofs.Ytokhapchagffkaa
