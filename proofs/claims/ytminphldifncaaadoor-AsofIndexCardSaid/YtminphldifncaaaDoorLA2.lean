/- AsofIndex answers true for every input. -/
import Derived.Test.YtminphldifncaaaDoorA7
set_option linter.unusedSimpArgs false
set_option linter.unusedVariables false
namespace Go.Proofs.YtminphldifncaaaDoor
open Go.RowKit LG
attribute [local go_sem] alloc_drewN setCell_drewN shape_drewN

theorem OnlyX.trans {base xb mb : Nat} {w1 w2 w3 : World} (h : OnlyX base xb mb w1 w2) (k : OnlyX base xb mb w2 w3) : OnlyX base xb mb w1 w3 :=
  ⟨k.os.trans h.os, k.tape.trans h.tape, k.output.trans h.output, Nat.le_trans h.size k.size, fun j h1 h2 h3 => (k.block j h1 h2 h3).trans (h.block j h1 h2 h3)⟩
theorem OnlyX.refl (base xb mb : Nat) (w : World) : OnlyX base xb mb w w := ⟨rfl, rfl, rfl, Nat.le_refl _, fun _ _ _ _ => rfl⟩
theorem ents_take2 {w : World} {B : Nat} {C : Option Addr} {l : List Et} (h : EntsAt w B C l) (k : Nat) : EntsAt w B C (l.take k) := fun hl => by
  rw [List.length_take] at hl
  obtain ⟨b, off, e, hb, hc⟩ := h (by omega)
  refine ⟨b, off, e, hb, fun j r hj => hc j r ?_⟩
  have hjk : j < k := by have := (List.getElem?_eq_some_iff.1 hj).1; rw [List.length_take] at this; omega
  rwa [List.getElem?_take_of_lt hjk] at hj
theorem ents_drop2 {w : World} {B b off : Nat} {l : List Et} (h : EntsAt w B (some ⟨b, off, none⟩) l) (k : Nat) : EntsAt w B (some ⟨b, off + k * 7, none⟩) (l.drop k) := fun hl => by
  rw [List.length_drop] at hl
  obtain ⟨b', off', e, hb, hc⟩ := h (by omega)
  injection e with e; injection e with e1 e2; subst e1 e2
  refine ⟨b, off + k * 7, rfl, hb, fun j r hj i v hv => ?_⟩
  rw [List.getElem?_drop] at hj
  have := hc (k + j) r hj i v hv
  rw [show off + k * 7 + (j * 7 + i) = off + ((k + j) * 7 + i) by omega]
  exact this
set_option maxRecDepth 100000 in
set_option maxHeartbeats 1000000 in
theorem index_any (l : List Et) (C : Option Addr) (cc : Nat) (cut owner place day known : Int) (w : World) (hT : Tabs w) (hC : EntsAt w w.heap.size C l) (hl : l.length ≤ 9223372036854775807) (hcap : l.length ≤ cc ∧ cc ≤ 9223372036854775807) (hCn : C = none → cc = 0) (hI : LitsIn l) :
    Calls Tryd.prog 7 #[.slice C l.length cc, .int .i64 cut, .int .i64 owner, .int .i64 place, .int .i64 day, .int .i64 known] w fun e w' => e = .returned (.bool true) ∧ Below w.heap.size w w' := by
  obtain ⟨n, hn⟩ : ∃ n, l.length = n := ⟨_, rfl⟩
  rw [hn] at hl hcap ⊢
  go_enter Tryd.func7, Tryd.ntmps7
  go_wp2_with fail
  go_at_call 9
  refine (small_any w hT).mono ?_
  rintro e1 w1 ⟨rfl, hb1⟩
  go_wp2_with fail
  go_at_call 17
  refine (new_any w1).mono ?_
  rintro e2 w2 ⟨rfl, hzq, hxm, hxx, hb2⟩
  have z12 : w1.heap.size + 1 < w2.heap.size := by omega
  clear hzq
  go_wp2_with fail
  go_at_call 17
  refine (new_any w2).mono ?_
  rintro e3 w3 ⟨rfl, hzq, hym, hyx, hb3⟩
  have z23 : w2.heap.size + 1 < w3.heap.size := by omega
  clear hzq
  have z01 := hb1.size
  have hb02 := hb1.trans (hb2.mono z01)
  have hb03 := hb02.trans (hb3.mono (by omega))
  by_cases g : n ≤ 40 ∧ 0 ≤ cut ∧ cut ≤ (n : Int)
  case neg =>
    by_cases g1 : 40 < n
    · have d1 : decide ((40 : Int) < (n : Int)) = true := decide_eq_true (by omega)
      go_wp2_with fail
      go_ret
      exact ⟨rfl, hb03⟩
    have d1 : decide ((40 : Int) < (n : Int)) = false := decide_eq_false (by omega)
    have d1' : ¬ 40 < n := g1
    by_cases g2 : cut < 0
    · have d2 : decide (cut < 0) = true := decide_eq_true g2
      go_wp2_with fail
      go_ret
      exact ⟨rfl, hb03⟩
    have d2 : decide (cut < 0) = false := decide_eq_false g2
    have d3 : decide ((n : Int) < cut) = true := decide_eq_true (by omega)
    go_wp2_with fail
    go_ret
    exact ⟨rfl, hb03⟩
  obtain ⟨g1, g2, g3⟩ := g
  obtain ⟨k, rfl⟩ : ∃ k : Nat, cut = k := ⟨cut.toNat, by omega⟩
  have hkn : k ≤ n := by omega
  have d1 : decide ((40 : Int) < (n : Int)) = false := decide_eq_false (by omega)
  have d1' : ¬ 40 < n := by omega
  have d2 : decide ((k : Int) < 0) = false := decide_eq_false (by omega)
  have d3 : decide ((n : Int) < (k : Int)) = false := decide_eq_false (by omega)
  have d3' : ¬ n < k := by omega
  have hX3 : IxAt w3 w3.heap.size (w1.heap.size + 1) w1.heap.size [] := IxAt.fresh ((hb3.block _ (by omega)).trans hxm) ((hb3.block _ (by omega)).trans hxx) (by omega) (by omega) (Nat.le_refl _)
  have KA1 := Lib.hid (add_any w3.heap.size (w1.heap.size + 1) w1.heap.size [] (l.take k) C cc w3 hX3 (ents_take2 (hC.below hb03) k) (by omega) (by rw [List.length_take]; omega) (by simp))
  rw [List.nil_append, show (l.take k).length = k by rw [List.length_take]; omega] at KA1
  clear hX3 hxm hxx
  go_wp2_with fail
  go_at_call 18
  refine KA1.out.mono ?_
  rintro e4 w4 ⟨rfl, hX4, ho4⟩
  have z34 := ho4.size
  have hb34 : Below w1.heap.size w3 w4 := ho4.below (Nat.le_refl _) (by omega) (by omega)
  have hym4 := (ho4.block w2.heap.size (by omega) (by omega) (by omega)).trans hym
  have hyx4 := (ho4.block (w2.heap.size + 1) (by omega) (by omega) (by omega)).trans hyx
  have hb04 := hb03.trans (hb34.mono z01)
  have KT1 := Lib.hid (ixat_any _ _ _ (l.take k) owner place day known w4 hX4 (by rw [List.length_take]; omega) (fun e he => hI e (List.mem_of_mem_take he)))
  obtain ⟨a1, ha1⟩ : ∃ a, account (l.take k) owner place day known = a := ⟨_, rfl⟩
  rw [ha1] at KT1
  have ha1 := Lib.hid ha1
  have hX4 := Lib.hid hX4
  have hym4 := Lib.hid hym4
  have hyx4 := Lib.hid hyx4
  clear KA1 hym hyx ho4
  go_wp2_with fail
  go_at_call 19
  refine KT1.out.mono ?_
  rintro e5 w5 ⟨rfl, hb5⟩
  clear KT1
  have hb45 := hb04.trans (hb5.mono (by omega))
  have hX5 := hX4.out.below hb5
  have hDb : EntsAt w5 w.heap.size (C.map fun x => x.add (k * 7)) (l.drop k) := fun hp => by
    have hlp : 0 < l.length := by rw [List.length_drop] at hp; omega
    obtain ⟨b, off, e, hb, hc⟩ := hC hlp
    subst e
    have := ents_drop2 (hC.below hb45) k hp
    rw [Option.map_some, Addr.add_lit]
    exact this
  have hDa : cc = k → EntsAt w5 w.heap.size C (l.drop k) := fun q => by
    rw [List.drop_eq_nil_of_le (by omega)]; exact EntsAt.nil _ _ _
  have KA2 : Hid (∀ A2 c2, EntsAt w5 w.heap.size A2 (l.drop k) → Calls Tryd.prog 18 #[.pointer (some ⟨w1.heap.size + 1, 0, none⟩), .slice A2 (n - k) c2] w5 fun e w' => e = .returned (.tuple #[]) ∧ IxAt w' w3.heap.size (w1.heap.size + 1) w1.heap.size l ∧ OnlyX w3.heap.size (w1.heap.size + 1) w1.heap.size w5 w') := fun A2 c2 hE => by
    have := add_any w3.heap.size (w1.heap.size + 1) w1.heap.size (l.take k) (l.drop k) A2 c2 w5 hX5 hE (by omega) (by rw [List.length_drop]; omega) (by rw [List.length_take]; omega)
    rw [List.take_append_drop, List.length_drop, hn] at this
    exact this
  obtain ⟨a2, ha2⟩ : ∃ a, account l owner place day known = a := ⟨_, rfl⟩
  have ha2 := Lib.hid ha2
  have z45 := hb5.size
  have hym5 := Lib.hid ((hb5.block w2.heap.size (by omega)).trans hym4.out)
  have hyx5 := Lib.hid ((hb5.block (w2.heap.size + 1) (by omega)).trans hyx4.out)
  have hwn : wrap64 ((n : Int) - 1) = (n : Int) - 1 := IntWalk.wrap64_in _ (by omega)
  have hwn2 : IntKind.i64.wrap ((n : Int) - 1) = (n : Int) - 1 := by rw [IntKind.wrap_i64]; omega
  have hnn := Lib.hid hn
  have hDb := Lib.hid hDb
  have hDa := Lib.hid hDa
  have hC' := Lib.hid hC
  clear hX4 hX5 hym4 hyx4 hn hC hCn hwn hwn2
  go_upto_region 9 with (first | (go_at_call 18; refine (KA2.out _ _ (by first | exact hDb.out | exact hDa.out (by assumption))).mono ?_; rintro e6 w6 ⟨rfl, hX6, ho6⟩) | fail)
  all_goals
    have z56 := ho6.size
    have hb56 : Below w1.heap.size w5 w6 := ho6.below (Nat.le_refl _) (by omega) (by omega)
    have hb06 := hb45.trans (hb56.mono z01)
    have hY6 : IxAt w6 w6.heap.size (w2.heap.size + 1) w2.heap.size [] := IxAt.fresh ((ho6.block w2.heap.size (by omega) (by omega) (by omega)).trans hym5.out) ((ho6.block (w2.heap.size + 1) (by omega) (by omega) (by omega)).trans hyx5.out) (by omega) (by omega) (Nat.le_refl _)
    have hX6 := Lib.hid hX6
    have hY6 := Lib.hid hY6
    obtain ⟨by0, hby⟩ : ∃ m, w6.heap.size = m := ⟨_, rfl⟩
    rw [hby] at hY6
    have hbyl : w3.heap.size ≤ by0 := by omega
    go_wp2_with fail
    go_loopw [17] (fun u17 wr => ∃ j : Nat, j ≤ n ∧ u17 = .int .i64 ((j : Int) - 1) ∧ Hid (IxAt wr by0 (w2.heap.size + 1) w2.heap.size ((l.drop j).reverse)) ∧ Hid (OnlyX by0 (w2.heap.size + 1) w2.heap.size w6 wr)) (fun u17 _ => (intOf u17 + 1).toNat)
    case atStart => exact ⟨n, Nat.le_refl _, by first | rfl | go_num, by show IxAt _ _ _ _ _; rw [List.drop_eq_nil_of_le (by have := hnn.out; omega)]; exact hY6.out, OnlyX.refl _ _ _ _⟩
    case round =>
      obtain ⟨j, hj, rfl, hY, hOr⟩ := hrel
      have hrs := hOr.out.size
      cases j with
      | succ i =>
        have e1 : ((i + 1 : Nat) : Int) - 1 = (i : Int) := by omega
        rw [e1]
        have hci : ¬ cc = i := by omega
        obtain ⟨e, hx⟩ : ∃ e, l[i]? = some e := ⟨_, List.getElem?_eq_getElem (by have := hnn.out; omega)⟩
        have hbr : Below w.heap.size w wr := hb06.trans (hOr.out.below (by omega) (by omega) (by omega))
        have hEi : EntsAt wr w.heap.size (C.map fun x => x.add (i * 7)) [e] := fun hp => by
          have hlp : 0 < l.length := by have := hnn.out; omega
          obtain ⟨b, off, e9, hb, hc⟩ := hC'.out hlp
          subst e9
          have h1 := ents_take2 (ents_drop2 (hC'.out.below hbr) i) 1
          have h2 : (l.drop i).take 1 = [e] := by
            rw [List.drop_eq_getElem_cons (by have := hnn.out; omega)]
            have := (List.getElem?_eq_some_iff.1 hx).2
            simp [this]
          rw [h2] at h1
          rw [Option.map_some, Addr.add_lit]
          exact h1 hp
        have hrev : Hid ((l.drop i).reverse = (l.drop (i + 1)).reverse ++ [e]) := by
          show _ = _
          rw [List.drop_eq_getElem_cons (by have := hnn.out; omega), List.reverse_cons, (List.getElem?_eq_some_iff.1 hx).2]
        have KAy := Lib.hid (fun c9 => add_any by0 (w2.heap.size + 1) w2.heap.size ((l.drop (i + 1)).reverse) [e] (C.map fun x => x.add (i * 7)) c9 wr hY.out hEi (by omega) (by simp) (by rw [List.length_reverse, List.length_drop]; have := hnn.out; omega))
        simp only [← hrev.out, show [e].length = 1 from rfl] at KAy
        clear hx hEi e1
        go_wp2_with (first | (go_at_call 18; refine (KAy.out _).mono ?_; rintro e7 w7 ⟨rfl, hY7, ho7⟩) | fail)
        go_roundw
        case rel => exact ⟨i, by omega, by first | rfl | go_num, hY7, hOr.out.trans ho7⟩
        case measure => simp [intOf] <;> omega
      | zero =>
        have e1 : ((0 : Nat) : Int) - 1 = -1 := by omega
        rw [e1]
        rw [List.drop_zero] at hY
        have hbr : Below w.heap.size w wr := hb06.trans (hOr.out.below (by omega) (by omega) (by omega))
        have hXr := hX6.out.aside hOr.out (by omega) ⟨by omega, by omega, by omega, by omega⟩ ⟨by omega, by omega⟩
        have KL := Lib.hid (fun c9 => at_any l C c9 owner place day known wr (hC'.out.below hbr) hbr.size (by have := hnn.out; omega) hI)
        simp only [ha2.out, hnn.out] at KL
        have HX := Lib.hid hXr
        clear e1
        go_upto_region 14 with (first | (go_at_call 16; refine (KL.out _).mono ?_; rintro e8 w8 ⟨rfl, hb8⟩) | fail)
        have hbr8 := hbr.trans (hb8.mono hbr.size)
        have hX8 := HX.out.below hb8
        have hY8 := hY.out.below hb8
        have KLk := Lib.hid (fun c9 => at_any (l.take k) C c9 owner place day known w8 (ents_take2 (hC'.out.below hbr8) k) hbr8.size (by rw [List.length_take]; have := hnn.out; omega) (fun e he => hI e (List.mem_of_mem_take he)))
        simp only [ha1.out, show (l.take k).length = k by rw [List.length_take]; have := hnn.out; omega] at KLk
        clear KL
        go_wp2_with (first | (go_at_call 16; refine (KLk.out _).mono ?_; rintro e9 w9 ⟨rfl, hb9⟩; have KX := Lib.hid (ixat_any _ _ _ l owner place day known w9 (hX8.below hb9) (by have := hnn.out; omega) hI); rw [ha2.out] at KX) | (go_at_call 19; (with_reducible refine KX.out.mono ?_); rintro e10 w10 ⟨rfl, hb10⟩; have hb810 := hb9.trans (hb10.mono hb9.size); have KY := Lib.hid (ixat_any _ _ _ l.reverse owner place day known w10 (hY8.below hb810) (by rw [List.length_reverse]; have := hnn.out; omega) (fun e he => hI e (List.mem_reverse.1 he))); rw [GI.account_perm (List.reverse_perm l), ha2.out] at KY) | (go_at_call 19; (with_reducible refine KY.out.mono ?_); rintro e11 w11 ⟨rfl, hb11⟩; have hb811 := hb810.trans (hb11.mono hb810.size); have KN := Lib.hid (len_any _ _ _ l w11 (hX8.below hb811)); rw [hnn.out] at KN; have KM := Lib.hid (len_any _ _ _ l.reverse w11 (hY8.below hb811)); rw [List.length_reverse, hnn.out] at KM) | (go_at_call 25; (with_reducible refine KN.out.mono ?_); rintro e12 _ ⟨rfl, rfl⟩) | (go_at_call 25; (with_reducible refine KM.out.mono ?_); rintro e13 _ ⟨rfl, rfl⟩) | fail)
        go_ret
        exact ⟨rfl, hbr8.trans (hb811.mono hbr8.size)⟩
end Go.Proofs.YtminphldifncaaaDoor
