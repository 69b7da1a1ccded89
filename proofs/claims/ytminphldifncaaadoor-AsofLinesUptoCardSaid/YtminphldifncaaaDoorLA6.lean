/- Joined of: LA6. -/
import Derived.Test.YtminphldifncaaaDoorG07
import Derived.Test.YtminphldifncaaaDoorG09
/- AsofLines answers true for every input of bulk at most 1048576. (Printed by gen_la6.py.) -/
set_option linter.unusedSimpArgs false
set_option linter.unusedVariables false
namespace Go.Proofs.YtminphldifncaaaDoor
open Go.RowKit LG
attribute [local go_sem] alloc_drewN setCell_drewN shape_drewN

theorem lines_lits {l : List Et} (h : Modest l) {owner fr un known : Int} (h0 : 0 ≤ owner) (h1 : fr ≤ un) : account l owner (-1) (fr - 1) known + litS (linesR l owner fr un known) = account l owner (-1) un known := by
  rw [account_sum h, account_sum h]
  unfold linesR
  rw [litS_perm (ST.insSort_stab ltDay swoDay (l.filter (lineB owner fr un known))).perm]
  have := lines_sum (l := l) (k := known) h0 h1
  unfold sumF at this
  omega
theorem textR_yes {n : Int} (h : 0 ≤ n ∧ n ≤ 16777216) : (textR n).length = 14 := by
  unfold textR
  rw [if_pos h]
  simp [textL, dig2]
set_option maxRecDepth 100000 in
set_option maxHeartbeats 8000000 in
theorem alines_any (X : Bas) (pl ow : List Bts) (l : List Et) (C : Option Addr) (cc : Nat) (owner fr un known : Int) (w : World) (hT : Tabs w) (hX : X.l1 = ow.length) (hO : StrsAt w w.heap.size X.a1 ow) (hN : NamesAt w w.heap.size X.P pl) (hC : EntsAt w w.heap.size C l) (hl : l.length ≤ 131072) (hpl : pl.length ≤ 9223372036854775807) (hol : ow.length ≤ 9223372036854775807)
    (hp1 : Hid (∀ x ∈ pl, x.length ≤ 1100000)) (ho1 : Hid (∀ x ∈ ow, x.length ≤ 1100000)) (hI : LitsIn l) (hRf : RefsIn l) :
    Calls Tryd.prog 8 #[.agg #[.string X.nm, .slice X.a1 X.l1 X.c1, .int .i64 X.cl, .slice X.P pl.length X.cP, .slice X.a4 X.l4 X.c4, .slice X.a5 X.l5 X.c5, .slice X.a6 X.l6 X.c6, .slice X.a7 X.l7 X.c7, .slice X.a8 X.l8 X.c8, .slice X.a9 X.l9 X.c9, .int .i64 X.er], .slice C l.length cc, .int .i64 owner, .int .i64 fr, .int .i64 un, .int .i64 known] w fun x w' => x = .returned (.bool true) ∧ Below w.heap.size w w' := by
  obtain ⟨N, hNN⟩ : ∃ N, w.heap.size = N := ⟨_, rfl⟩
  obtain ⟨W, hW⟩ : ∃ W, W = w.alloc (.cells #[.string X.nm, .slice X.a1 X.l1 X.c1, .int .i64 X.cl, .slice X.P pl.length X.cP, .slice X.a4 X.l4 X.c4, .slice X.a5 X.l5 X.c5, .slice X.a6 X.l6 X.c6, .slice X.a7 X.l7 X.c7, .slice X.a8 X.l8 X.c8, .slice X.a9 X.l9 X.c9, .int .i64 X.er] 31) := ⟨_, rfl⟩
  have hbW : Below N w W := by rw [hW, ← hNN]; exact (Below.refl _ _).alloc (Nat.le_refl _) _
  have hzW : N < W.heap.size := by rw [hW]; simp; omega
  have hbx : W.heap[N]? = some (basO X X.a1 X.l1 pl.length) := by rw [hW, ← hNN]; exact heap_alloc_new _ _
  have hTW : Tabs W := hT.below hT.size (by rw [hNN]; exact hbW) (by omega)
  have KS := Lib.hid (small_any W hTW)
  rw [hW] at KS
  have hWx := Lib.hid hW
  rw [hNN] at hO hN hC
  clear hW
  have hX0 := hX
  replace hX := Lib.hid hX
  have fO : ∀ wx, Below N w wx → StrsAt wx N X.a1 ow := fun wx hb => hO.below hb
  have fN : ∀ wx, Below N w wx → NamesAt wx N X.P pl := fun wx hb => hN.below hb
  have fC : ∀ wx, Below N w wx → EntsAt wx N C l := fun wx hb => hC.below hb
  clear hX0
  go_enter Tryd.func8, Tryd.ntmps8
  go_wp2_with fail
  go_at_call 9
  refine KS.out.mono ?_
  rw [← hWx.out]
  rintro e1 w1 ⟨rfl, hb1⟩
  clear KS
  have hbx1 := (hb1.block N hzW).trans hbx
  have hb01 : Below N w w1 := hbW.trans (hb1.mono (by omega))
  obtain ⟨c0, c1, c2, c3, c4, c5, c6, c7, c8, c9, c10⟩ := basO_cells hbx1
  have z1 : N < w1.heap.size := Nat.lt_of_lt_of_le hzW hb1.size
  have KF := Lib.hid (few_any X pl ow l C cc w1 hX.out (CellsAt.more (fO _ hb01) (by omega)) (NamesAt.more (fN _ hb01) (by omega)) (by omega) hpl hol (fun x hx => Nat.le_trans (hp1.out x hx) (by omega)) (fun x hx => Nat.le_trans (ho1.out x hx) (by omega)))
  unfold FewIs at KF
  obtain ⟨S, hS⟩ : ∃ s, stmtL ow pl l owner fr un known = s := ⟨_, rfl⟩
  have HS := Lib.hid hS
  clear hS
  go_upto_region 5 with (first | (go_at_call 10; refine KF.out.mono ?_; rintro e2 w2 ⟨fb, rfl, hf, hb2⟩; have hbx2 := (hb2.block N z1).trans hbx1; have hb02 : Below N w w2 := hb01.trans (hb2.mono (by omega)); have z2 : N < w2.heap.size := Nat.lt_of_lt_of_le z1 hb2.size; obtain ⟨d0, d1, d2, d3, d4, d5, d6, d7, d8, d9, d10⟩ := basO_cells hbx2; have KM := Lib.hid (modest_any l C cc w2 (fC _ hb02) (by omega) (by omega)); unfold ModIs at KM; have KST := stmt_any X pl ow l C cc owner fr un known w2 (hT.below hT.size (by rw [hNN]; exact hb02) (by omega)) hX.out (CellsAt.more (fO _ hb02) (by omega)) (NamesAt.more (fN _ hb02) (by omega)) ((fC _ hb02).more (by omega)) (by omega) hI hRf hpl ho1 hp1; rw [HS.out] at KST; replace KST := Lib.hid KST) | (go_at_call 23; refine KM.out.mono ?_; rintro e3 w3 ⟨mb, rfl, hm, rfl⟩) | (go_at_call 15; refine KST.out.mono ?_; rintro e4 w4 ⟨rfl, hb4⟩) | fail)
  have hb04 : Below N w w4 := hb02.trans (hb4.mono (by omega))
  have hbx4 := (hb4.block N z2).trans hbx2
  have z4 : N < w4.heap.size := Nat.lt_of_lt_of_le z2 hb4.size
  clear KF KM KST c0 c1 c2 c3 c4 c5 c6 c7 c8 c9 c10 d0 d1 d2 d3 d4 d5 d6 d7 d8 d9 d10
  have hmb := Lib.hid hm
  have hfb := Lib.hid hf
  clear hm hf
  by_cases h : owner < 0 ∨ (ow.length : Int) ≤ owner ∨ known < 0 ∨ 16777216 < known ∨ fr < 0 ∨ un < fr ∨ 699050 < un
  · have hs : S = [] := by rw [← HS.out]; unfold stmtL; rw [if_pos h]
    subst hs
    have hb0 : bs [] = ⟨#[]⟩ := rfl
    rw [hb0]
    clear h
    cases fb <;> cases mb
    all_goals
      go_wp2_with fail
      go_ret
      exact ⟨rfl, by first | exact hb04 | (rw [hNN]; exact hb04)⟩
  obtain ⟨k, hk⟩ : ∃ k : Nat, owner = k := ⟨owner.toNat, by omega⟩
  subst hk
  obtain ⟨nm, hnm⟩ : ∃ x, ow[k]? = some x := ⟨_, List.getElem?_eq_getElem (by omega)⟩
  have hHd : Hid (headL ow k fr un known = [97, 99, 99, 111, 117, 110, 116, 32] ++ nm ++ [32] ++ dayL fr ++ [32] ++ dayL un ++ [32, 107, 110, 111, 119, 110, 32] ++ textR known ++ [10]) := by
    show _ = _; unfold headL; rw [Int.toNat_natCast, List.getD_eq_getElem?_getD, hnm]; exact head_sum _ _ _ _
  have hS : Hid (S = headL ow k fr un known ++ lineL [wOpe, sgnL (account l k (-1) (fr - 1) known)] ++ (linesR l k fr un known).flatMap (rowL pl) ++ lineL [wClo, sgnL (account l k (-1) un known)]) := by
    show _ = _; rw [← HS.out]; unfold stmtL; rw [if_neg h]
  have hne : Hid (((bs S).toList == (⟨#[]⟩ : ByteArray).toList) = false) := by
    show _ = _
    rw [hS.out, hHd.out]
    simp [bs]
  clear HS
  have hrange : 0 ≤ fr ∧ fr ≤ un ∧ un ≤ 699050 ∧ 0 ≤ known ∧ known ≤ 16777216 ∧ k < ow.length := by omega
  clear h
  have hno2 : (bs S).toList ≠ [] := fun q => by
    have := hne.out
    rw [q] at this
    simp at this
  cases fb
  · have hne1 := hne.out
    cases mb
    all_goals
      go_wp2_with fail
      all_goals go_ret
      all_goals exact ⟨rfl, by first | exact hb04 | (rw [hNN]; exact hb04)⟩
  cases mb
  · have hne1 := hne.out
    go_wp2_with fail
    all_goals go_ret
    all_goals exact ⟨rfl, by first | exact hb04 | (rw [hNN]; exact hb04)⟩
  have hF : Few ow pl l := hfb.out rfl
  have hM : Modest l := hmb.out rfl
  clear hfb hmb
  have hl40 := hF.l40
  clear hF
  have hne1 : (bs S).toList.isEmpty = false := by
    cases hq : (bs S).toList with
    | nil => exact absurd hq hno2
    | cons => rfl
  obtain ⟨ob, oo, e1, hob, hoc⟩ := hO.at_ hnm
  have hnl := ho1.out nm (List.mem_of_getElem? hnm)
  obtain ⟨no, hno⟩ : ∃ n, ow.length = n := ⟨_, rfl⟩
  rw [hno] at hrange
  have cf : Hid (∀ wx, Below N w wx → wx.heap[N]? = some (basO X X.a1 X.l1 pl.length) → (wx.cell? ⟨N, 1, none⟩ = some (.slice (some ⟨ob, oo, none⟩) no X.c1) ∧ wx.cell? ⟨ob, oo + k, none⟩ = some (.string (bs nm)))) := fun wx h1 h2 => ⟨by rw [(basO_cells h2).2.1, e1, hX.out, hno], (h1.cell (p := ⟨ob, oo + k, none⟩) (by show ob < N; omega)).trans hoc⟩
  have hobN : ob < N := by omega
  clear e1 hoc hno hnm
  have kf1 : (24 : Int) * fr = 24 * fr := rfl
  have wf1 : IntKind.i64.wrap (24 * fr) = 24 * fr := by rw [IntKind.wrap_i64]; omega
  have wu1 : IntKind.i64.wrap (24 * un) = 24 * un := by rw [IntKind.wrap_i64]; omega
  have hwf : IntKind.i64.wrap (fr - 1) = fr - 1 := by rw [IntKind.wrap_i64]; omega
  have q1 := textR_yes (n := 24 * fr) (by omega)
  have q2 := textR_yes (n := 24 * un) (by omega)
  have q3 := textL_len known
  have KF := Lib.hid (fun (wx : World) (hx : Tabs wx) => text_any (24 * fr) wx hx)
  have KU := Lib.hid (fun (wx : World) (hx : Tabs wx) => text_any (24 * un) wx hx)
  have KT := Lib.hid (fun (wx : World) (hx : Tabs wx) => text_any known wx hx)
  replace hHd : Hid (headL ow k fr un known = [97, 99, 99, 111, 117, 110, 116, 32] ++ nm ++ [32] ++ (textR (24 * fr)).take 10 ++ [32] ++ (textR (24 * un)).take 10 ++ [32, 107, 110, 111, 119, 110, 32] ++ textR known ++ [10]) := hHd
  obtain ⟨tF, eF⟩ : ∃ s, textR (24 * fr) = s := ⟨_, rfl⟩
  obtain ⟨tU, eU⟩ : ∃ s, textR (24 * un) = s := ⟨_, rfl⟩
  obtain ⟨sT, eT⟩ : ∃ s, textR known = s := ⟨_, rfl⟩
  rw [eF] at KF q1
  rw [eU] at KU q2
  rw [eT] at KT q3
  rw [eF, eU, eT] at hHd
  have zF : (bs tF).size = 14 := by rw [bs_size]; exact q1
  have zU : (bs tU).size = 14 := by rw [bs_size]; exact q2
  have zT : (bs sT).size = sT.length := bs_size _
  have znm : (bs nm).size = nm.length := bs_size _
  have lF : (tF.take 10).length = 10 := by rw [List.length_take]; omega
  have lU : (tU.take 10).length = 10 := by rw [List.length_take]; omega
  have xF0 : (bs tF).extract 0 10 = bs (tF.take 10) := by apply ByteArray.ext; simp [bs]
  have xU0 : (bs tU).extract 0 10 = bs (tU.take 10) := by apply ByteArray.ext; simp [bs]
  obtain ⟨sF, esF⟩ : ∃ s, tF.take 10 = s := ⟨_, rfl⟩
  obtain ⟨sU, esU⟩ : ∃ s, tU.take 10 = s := ⟨_, rfl⟩
  rw [esF] at xF0 lF hHd
  rw [esU] at xU0 lU hHd
  have zsF : (bs sF).size = sF.length := bs_size _
  have zsU : (bs sU).size = sU.length := bs_size _
  obtain ⟨a1, ha1⟩ : ∃ a, account l k (-1) (fr - 1) known = a := ⟨_, rfl⟩
  have hi1 : In64 a1 := by rw [← ha1]; exact account_in _ _ _ _ _
  obtain ⟨a2, ha2⟩ : ∃ a, account l k (-1) un known = a := ⟨_, rfl⟩
  have hi2 : In64 a2 := by rw [← ha2]; exact account_in _ _ _ _ _
  obtain ⟨L, hL⟩ : ∃ L, linesR l k fr un known = L := ⟨_, rfl⟩
  have hsum : Hid (a1 + litS L = a2) := by show _ = _; rw [← ha1, ← ha2, ← hL]; exact lines_lits hM (by omega) (by omega)
  have l1 := sgnL_len a1 hi1
  have l2 := sgnL_len a2 hi2
  have KG1 := Lib.hid (fun (wx : World) => rnum_any a1 wx hi1.1 hi1.2)
  have KG2 := Lib.hid (fun (wx : World) => rnum_any a2 wx hi2.1 hi2.2)
  rw [ha1, ha2, hL, clo_sum] at hS
  obtain ⟨sA, eA⟩ : ∃ s, sgnL a1 = s := ⟨_, rfl⟩
  obtain ⟨sB, eB⟩ : ∃ s, sgnL a2 = s := ⟨_, rfl⟩
  have hSo : Hid (lineL [wOpe, sgnL a1] = [111, 112, 101, 110, 105, 110, 103, 32] ++ sA ++ [10]) := by show _ = _; rw [eA]; exact ope_sum _
  rw [hSo.out] at hS
  rw [eA] at KG1 l1
  rw [eB] at KG2 l2 hS
  have zA : (bs sA).size = sA.length := bs_size _
  have zB : (bs sB).size = sB.length := bs_size _
  obtain ⟨h1, eh1⟩ : ∃ f, f = ([97, 99, 99, 111, 117, 110, 116, 32] : Bts) ++ nm := ⟨_, rfl⟩
  have sh1 : (⟨#[97, 99, 99, 111, 117, 110, 116, 32]⟩ : ByteArray) ++ bs nm = bs h1 := by rw [eh1]; apply ByteArray.ext; simp [bs]
  have zh1 : (bs h1).size = h1.length := bs_size _
  have nh1 : h1.length = ([97, 99, 99, 111, 117, 110, 116, 32] : Bts).length + nm.length := by rw [eh1, List.length_append]
  have gh1 : ¬ (9223372036854775807 : Int) < 8 + (nm.length : Int) := by (try simp only [List.length_cons, List.length_nil] at *); omega
  have kh1 : ¬ 9223372036854775807 < 8 + (nm.length) := by (try simp only [List.length_cons, List.length_nil] at *); omega
  obtain ⟨h2, eh2⟩ : ∃ f, f = h1 ++ ([32] : Bts) := ⟨_, rfl⟩
  have sh2 : bs h1 ++ (⟨#[32]⟩ : ByteArray) = bs h2 := by rw [eh2]; apply ByteArray.ext; simp [bs]
  have zh2 : (bs h2).size = h2.length := bs_size _
  have nh2 : h2.length = h1.length + ([32] : Bts).length := by rw [eh2, List.length_append]
  have gh2 : ¬ (9223372036854775807 : Int) < (h1.length : Int) + 1 := by (try simp only [List.length_cons, List.length_nil] at *); omega
  have kh2 : ¬ 9223372036854775807 < (h1.length) + 1 := by (try simp only [List.length_cons, List.length_nil] at *); omega
  obtain ⟨h3, eh3⟩ : ∃ f, f = h2 ++ sF := ⟨_, rfl⟩
  have sh3 : bs h2 ++ bs sF = bs h3 := by rw [eh3]; apply ByteArray.ext; simp [bs]
  have zh3 : (bs h3).size = h3.length := bs_size _
  have nh3 : h3.length = h2.length + sF.length := by rw [eh3, List.length_append]
  have gh3 : ¬ (9223372036854775807 : Int) < (h2.length : Int) + (sF.length : Int) := by (try simp only [List.length_cons, List.length_nil] at *); omega
  have kh3 : ¬ 9223372036854775807 < (h2.length) + (sF.length) := by (try simp only [List.length_cons, List.length_nil] at *); omega
  obtain ⟨h4, eh4⟩ : ∃ f, f = h3 ++ ([32] : Bts) := ⟨_, rfl⟩
  have sh4 : bs h3 ++ (⟨#[32]⟩ : ByteArray) = bs h4 := by rw [eh4]; apply ByteArray.ext; simp [bs]
  have zh4 : (bs h4).size = h4.length := bs_size _
  have nh4 : h4.length = h3.length + ([32] : Bts).length := by rw [eh4, List.length_append]
  have gh4 : ¬ (9223372036854775807 : Int) < (h3.length : Int) + 1 := by (try simp only [List.length_cons, List.length_nil] at *); omega
  have kh4 : ¬ 9223372036854775807 < (h3.length) + 1 := by (try simp only [List.length_cons, List.length_nil] at *); omega
  obtain ⟨h5, eh5⟩ : ∃ f, f = h4 ++ sU := ⟨_, rfl⟩
  have sh5 : bs h4 ++ bs sU = bs h5 := by rw [eh5]; apply ByteArray.ext; simp [bs]
  have zh5 : (bs h5).size = h5.length := bs_size _
  have nh5 : h5.length = h4.length + sU.length := by rw [eh5, List.length_append]
  have gh5 : ¬ (9223372036854775807 : Int) < (h4.length : Int) + (sU.length : Int) := by (try simp only [List.length_cons, List.length_nil] at *); omega
  have kh5 : ¬ 9223372036854775807 < (h4.length) + (sU.length) := by (try simp only [List.length_cons, List.length_nil] at *); omega
  obtain ⟨h6, eh6⟩ : ∃ f, f = h5 ++ ([32, 107, 110, 111, 119, 110, 32] : Bts) := ⟨_, rfl⟩
  have sh6 : bs h5 ++ (⟨#[32, 107, 110, 111, 119, 110, 32]⟩ : ByteArray) = bs h6 := by rw [eh6]; apply ByteArray.ext; simp [bs]
  have zh6 : (bs h6).size = h6.length := bs_size _
  have nh6 : h6.length = h5.length + ([32, 107, 110, 111, 119, 110, 32] : Bts).length := by rw [eh6, List.length_append]
  have gh6 : ¬ (9223372036854775807 : Int) < (h5.length : Int) + 7 := by (try simp only [List.length_cons, List.length_nil] at *); omega
  have kh6 : ¬ 9223372036854775807 < (h5.length) + 7 := by (try simp only [List.length_cons, List.length_nil] at *); omega
  obtain ⟨h7, eh7⟩ : ∃ f, f = h6 ++ sT := ⟨_, rfl⟩
  have sh7 : bs h6 ++ bs sT = bs h7 := by rw [eh7]; apply ByteArray.ext; simp [bs]
  have zh7 : (bs h7).size = h7.length := bs_size _
  have nh7 : h7.length = h6.length + sT.length := by rw [eh7, List.length_append]
  have gh7 : ¬ (9223372036854775807 : Int) < (h6.length : Int) + (sT.length : Int) := by (try simp only [List.length_cons, List.length_nil] at *); omega
  have kh7 : ¬ 9223372036854775807 < (h6.length) + (sT.length) := by (try simp only [List.length_cons, List.length_nil] at *); omega
  obtain ⟨h8, eh8⟩ : ∃ f, f = h7 ++ ([10, 111, 112, 101, 110, 105, 110, 103, 32] : Bts) := ⟨_, rfl⟩
  have sh8 : bs h7 ++ (⟨#[10, 111, 112, 101, 110, 105, 110, 103, 32]⟩ : ByteArray) = bs h8 := by rw [eh8]; apply ByteArray.ext; simp [bs]
  have zh8 : (bs h8).size = h8.length := bs_size _
  have nh8 : h8.length = h7.length + ([10, 111, 112, 101, 110, 105, 110, 103, 32] : Bts).length := by rw [eh8, List.length_append]
  have gh8 : ¬ (9223372036854775807 : Int) < (h7.length : Int) + 9 := by (try simp only [List.length_cons, List.length_nil] at *); omega
  have kh8 : ¬ 9223372036854775807 < (h7.length) + 9 := by (try simp only [List.length_cons, List.length_nil] at *); omega
  obtain ⟨h9, eh9⟩ : ∃ f, f = h8 ++ sA := ⟨_, rfl⟩
  have sh9 : bs h8 ++ bs sA = bs h9 := by rw [eh9]; apply ByteArray.ext; simp [bs]
  have zh9 : (bs h9).size = h9.length := bs_size _
  have nh9 : h9.length = h8.length + sA.length := by rw [eh9, List.length_append]
  have gh9 : ¬ (9223372036854775807 : Int) < (h8.length : Int) + (sA.length : Int) := by (try simp only [List.length_cons, List.length_nil] at *); omega
  have kh9 : ¬ 9223372036854775807 < (h8.length) + (sA.length) := by (try simp only [List.length_cons, List.length_nil] at *); omega
  obtain ⟨h10, eh10⟩ : ∃ f, f = h9 ++ ([10] : Bts) := ⟨_, rfl⟩
  have sh10 : bs h9 ++ (⟨#[10]⟩ : ByteArray) = bs h10 := by rw [eh10]; apply ByteArray.ext; simp [bs]
  have zh10 : (bs h10).size = h10.length := bs_size _
  have nh10 : h10.length = h9.length + ([10] : Bts).length := by rw [eh10, List.length_append]
  have gh10 : ¬ (9223372036854775807 : Int) < (h9.length : Int) + 1 := by (try simp only [List.length_cons, List.length_nil] at *); omega
  have kh10 : ¬ 9223372036854775807 < (h9.length) + 1 := by (try simp only [List.length_cons, List.length_nil] at *); omega
  have hH2 : Hid (headL ow k fr un known ++ ([111, 112, 101, 110, 105, 110, 103, 32] ++ sA ++ [10]) = h10) := by show _ = _; rw [hHd.out]; rw [eh10]; rw [eh9]; rw [eh8]; rw [eh7]; rw [eh6]; rw [eh5]; rw [eh4]; rw [eh3]; rw [eh2]; rw [eh1]; simp
  have hol : h10.length ≤ 1300000 := by (try simp only [List.length_cons, List.length_nil] at *); omega
  rw [hH2.out] at hS
  clear eh1 nh1 eh2 nh2 eh3 nh3 eh4 nh4 eh5 nh5 eh6 nh6 eh7 nh7 eh8 nh8 eh9 nh9 eh10 nh10 hHd hH2 hSo eA eB eF eU eT esF esU q1 q2 q3 lF lU l1
  have K1 := lines_any l C cc k fr un known w4 (fC _ hb04) (by omega) (by omega)
  rw [hL] at K1
  replace K1 := Lib.hid K1
  have KA := fun (wx : World) (hz : N ≤ wx.heap.size) (hb : Below N w wx) => at_any l C cc k (-1) (fr - 1) known wx (fC _ hb) hz (by omega) hI
  rw [ha1] at KA
  replace KA := Lib.hid KA
  have hLm : Hid (∀ e ∈ L, In64 e.litres ∧ In64 e.ref ∧ 0 ≤ e.day ∧ e.day ≤ 699050) := fun e he => by
    rw [← hL] at he
    obtain ⟨q1, q2, q3⟩ := lines_mem he
    exact ⟨hI e q1, hRf e q1, by omega, by omega⟩
  have hLl : L.length ≤ 40 := by
    rw [← hL]; unfold linesR; rw [insSort_len]
    exact Nat.le_trans (List.length_filter_le _ _) hl40
  have hML : Hid (Modest L) := ⟨hLl, fun e he => by rw [← hL] at he; exact hM.2 e (lines_mem he).1⟩
  clear hL ha1 ha2 hM
  have t4 : Tabs w4 := hT.below hT.size (by rw [hNN]; exact hb04) (by omega)
  obtain ⟨r1, r2, r3, r4, r5, r6⟩ := hrange
  go_upto_region 9 with (first | (go_at_call 26; refine K1.out.mono ?_; rintro e5 w5 ⟨D, dc, rfl, hcap, hE, hb5⟩; have b5 : Below N w w5 := hb04.trans (hb5.mono (by omega)); have x5 := (hb5.block N z4).trans hbx4; have z5 : N < w5.heap.size := Nat.lt_of_lt_of_le z4 hb5.size; have t5 : Tabs w5 := t4.below t4.size hb5 hb5.size) | (go_at_call 16; refine (KA.out w5 (by omega) b5).mono ?_; rintro e6 w6 ⟨rfl, hb6⟩; have b6 : Below N w w6 := b5.trans (hb6.mono (by omega)); have x6 := (hb6.block N z5).trans x5; have z6 : N < w6.heap.size := Nat.lt_of_lt_of_le z5 hb6.size; have t6 : Tabs w6 := t5.below t5.size hb6 hb6.size; have hE6 := Lib.hid ((hE.below hb6).more hb6.size)) | fail)
  clear hne1 hne hno2 K1 KA hb04 b5 x5 z5 t5 t4 hbx4 z4 hE hb5 hb6 hwf
  have hk2 : (k : Int) < (no : Int) := by omega
  refine Plan.wp_region_treeS (fun wx => wx.cell? ⟨N, 1, none⟩ = some (.slice (some ⟨ob, oo, none⟩) no X.c1) ∧ wx.cell? ⟨ob, oo + k, none⟩ = some (.string (bs nm))) (.rd 0 (.rd 1 (.rd 2 (.rd 3 (.rd 4 (.rd 5 (.rd 6 (.rd 7 (.rd 8 (.rd 13 (.rd 14 (.rd 19 (.rd 23 (.wr 9 (.rd 10 (.rd 11 (.rd 12 (.wr 15 (.rd 16 (.rd 17 (.rd 18 (.wr 20 (.rd 21 (.rd 22 (.wr 24 (.rd 25 (.rd 26 (.rd 27 .done)))))))))))))))))))))))))))) (by kernel_rfl) (by kernel_rfl) (cf.out _ b6.drew x6) ?_
  (repeat (first | (refine Plan.tree_read (v := ?_) rfl rfl ?_ ?_; rotate_left; (focus ((intro wS hSw; have hSx := hSw; go_simp); try with_reducible rfl)); simp only [Act.put, List.setIfInBounds_toArray, List.set_cons_zero, List.set_cons_succ]) | (refine Plan.tree_skip rfl rfl ?_; simp only [Act.put, List.setIfInBounds_toArray, List.set_cons_zero, List.set_cons_succ])))
  (refine Plan.tree_write rfl (fun K hK => ?_); try go_simp)
  go_at_call 27
  refine (KF.out w6.drew (t6.drewN 1)).mono ?_
  rintro u7 w7 ⟨rfl, hb7⟩
  replace hb7 : Below w6.heap.size w6 w7 := (Below.refl _ _).drew.trans hb7
  have b7 : Below N w w7 := b6.trans (hb7.mono (by omega))
  have x7 := (hb7.block N z6).trans x6
  have z7 : N < w7.heap.size := Nat.lt_of_lt_of_le z6 hb7.size
  have t7 : Tabs w7 := t6.below t6.size hb7 hb7.size
  (refine hK.out _ _ (cf.out _ b7 x7) ?_; clear hK K; try simp only [Act.put, List.setIfInBounds_toArray, List.set_cons_zero, List.set_cons_succ])
  (repeat (first | (refine Plan.tree_read (v := ?_) rfl rfl ?_ ?_; rotate_left; (focus ((intro wS hSw; have hSx := hSw; go_simp); try with_reducible rfl)); simp only [Act.put, List.setIfInBounds_toArray, List.set_cons_zero, List.set_cons_succ]) | (refine Plan.tree_skip rfl rfl ?_; simp only [Act.put, List.setIfInBounds_toArray, List.set_cons_zero, List.set_cons_succ])))
  (refine Plan.tree_write rfl (fun K hK => ?_); try go_simp)
  go_at_call 27
  refine (KU.out w7 t7).mono ?_
  rintro u8 w8 ⟨rfl, hb8⟩
  have b8 : Below N w w8 := b7.trans (hb8.mono (by omega))
  have x8 := (hb8.block N z7).trans x7
  have z8 : N < w8.heap.size := Nat.lt_of_lt_of_le z7 hb8.size
  have t8 : Tabs w8 := t7.below t7.size hb8 hb8.size
  (refine hK.out _ _ (cf.out _ b8 x8) ?_; clear hK K; try simp only [Act.put, List.setIfInBounds_toArray, List.set_cons_zero, List.set_cons_succ])
  (repeat (first | (refine Plan.tree_read (v := ?_) rfl rfl ?_ ?_; rotate_left; (focus ((intro wS hSw; have hSx := hSw; go_simp); try with_reducible rfl)); simp only [Act.put, List.setIfInBounds_toArray, List.set_cons_zero, List.set_cons_succ]) | (refine Plan.tree_skip rfl rfl ?_; simp only [Act.put, List.setIfInBounds_toArray, List.set_cons_zero, List.set_cons_succ])))
  (refine Plan.tree_write rfl (fun K hK => ?_); try go_simp)
  go_at_call 27
  refine (KT.out w8 t8).mono ?_
  rintro u9 w9 ⟨rfl, hb9⟩
  have b9 : Below N w w9 := b8.trans (hb9.mono (by omega))
  have x9 := (hb9.block N z8).trans x8
  have z9 : N < w9.heap.size := Nat.lt_of_lt_of_le z8 hb9.size
  have t9 : Tabs w9 := t8.below t8.size hb9 hb9.size
  (refine hK.out _ _ (cf.out _ b9 x9) ?_; clear hK K; try simp only [Act.put, List.setIfInBounds_toArray, List.set_cons_zero, List.set_cons_succ])
  (repeat (first | (refine Plan.tree_read (v := ?_) rfl rfl ?_ ?_; rotate_left; (focus ((intro wS hSw; have hSx := hSw; go_simp); try with_reducible rfl)); simp only [Act.put, List.setIfInBounds_toArray, List.set_cons_zero, List.set_cons_succ]) | (refine Plan.tree_skip rfl rfl ?_; simp only [Act.put, List.setIfInBounds_toArray, List.set_cons_zero, List.set_cons_succ])))
  (refine Plan.tree_write rfl (fun K hK => ?_); try go_simp)
  go_at_call 28
  refine (KG1.out w9).mono ?_
  rintro u10 w10 ⟨rfl, hb10⟩
  have b10 : Below N w w10 := b9.trans (hb10.mono (by omega))
  have x10 := (hb10.block N z9).trans x9
  have z10 : N < w10.heap.size := Nat.lt_of_lt_of_le z9 hb10.size
  have t10 : Tabs w10 := t9.below t9.size hb10 hb10.size
  (refine hK.out _ _ (cf.out _ b10 x10) ?_; clear hK K; try simp only [Act.put, List.setIfInBounds_toArray, List.set_cons_zero, List.set_cons_succ])
  (repeat (first | (refine Plan.tree_read (v := ?_) rfl rfl ?_ ?_; rotate_left; (focus ((intro wS hSw; have hSx := hSw; go_simp); try with_reducible rfl)); simp only [Act.put, List.setIfInBounds_toArray, List.set_cons_zero, List.set_cons_succ]) | (refine Plan.tree_skip rfl rfl ?_; simp only [Act.put, List.setIfInBounds_toArray, List.set_cons_zero, List.set_cons_succ])))
  refine Plan.tree_done ?_
  have hE10 := Lib.hid ((hE6.out.below (hb7.trans ((hb8.trans ((hb9.trans (hb10.mono hb9.size)).mono hb8.size)).mono hb7.size))).more (Nat.le_trans hb7.size (Nat.le_trans hb8.size (Nat.le_trans hb9.size hb10.size))))
  clear cf KF KU KT KG1 hb7 hb8 hb9 hb10 b6 b7 b8 b9 x6 x7 x8 x9 z6 z7 z8 z9 t6 t7 t8 t9 hE6 zF zU zT znm zsF zsU zA xF0 xU0 wf1 wu1 kf1 sh1 gh1 kh1 sh2 gh2 kh2 sh3 gh3 kh3 sh4 gh4 kh4 sh5 gh5 kh5 sh6 gh6 kh6 sh7 gh7 kh7 sh8 gh8 kh8 sh9 gh9 kh9 sh10 gh10 kh10 zh1 zh2 zh3 zh4 zh5 zh6 zh7 zh8 zh9
  obtain ⟨tx, htx⟩ : ∃ t, h10 = t := ⟨_, rfl⟩
  rw [htx] at hS hol zh10 ⊢
  clear htx
  obtain ⟨Lf, hLf⟩ : ∃ f : Nat → Bts, f = fun j => (L.take j).flatMap (rowL pl) := ⟨_, rfl⟩
  have hL0 : Hid (Lf 0 = []) := by show _ = _; rw [hLf]; rfl
  have hLs : Hid (∀ j e, L[j]? = some e → Lf (j + 1) = Lf j ++ rowL pl e) := fun j e h => by
    rw [hLf]; simp only [List.take_add_one, h, List.flatMap_append]; simp
  have hLe : Hid ((L.flatMap (rowL pl)) = Lf L.length) := by show _ = _; rw [hLf]; simp
  rw [hLe.out] at hS
  clear hLf hLe
  go_wp2_with fail
  go_loopw [19, 20] (fun u13 u15 wr => ∃ (j : Nat) (tj : Bts), j ≤ L.length ∧ u15 = .int .i64 j ∧ u13 = .string (bs tj) ∧ Hid (tj = tx ++ Lf j) ∧ tj.length ≤ 1300000 + j * 1100100 ∧ Below w10.heap.size w10 wr ∧ w10.heap.size ≤ wr.heap.size) (fun _ u15 _ => L.length - (intOf u15).toNat)
  case atStart => exact ⟨0, tx, Nat.zero_le _, rfl, rfl, by show _ = _; rw [hL0.out, List.append_nil], by omega, Below.refl _ _, Nat.le_refl _⟩
  case round =>
    obtain ⟨j, tj, hj, rfl, rfl, htj, hlj, hbr, hzr⟩ := hrel
    have zj : (bs tj).size = tj.length := bs_size _
    have hlj2 : tj.length ≤ 300000000000 := Nat.le_trans hlj (by have : j * 1100100 ≤ 200000 * 1100100 := Nat.mul_le_mul_right _ (by omega); omega)
    have br : Below N w wr := b10.trans (hbr.mono (by omega))
    have xr := (hbr.block N z10).trans x10
    have zr : N < wr.heap.size := Nat.lt_of_lt_of_le z10 hzr
    have tr : Tabs wr := t10.below t10.size hbr hzr
    by_cases hlt : j < L.length
    · obtain ⟨e, hx⟩ : ∃ e, L[j]? = some e := ⟨_, List.getElem?_eq_getElem hlt⟩
      obtain ⟨b, off, hDb, hb, r0, r1, r2, r3, r4, r5, r6⟩ := (EntsAt.below hE10.out hbr).at_ hx
      subst hDb
      obtain ⟨i1, i2, i3, i4⟩ := hLm.out e (List.mem_of_getElem? hx)
      have hstep := Lib.hid (hLs.out j e hx)
      have hbw : b < wr.heap.size := by omega
      clear hx
      have hrl : (rowL pl e).length ≤ 1100100 := by
        have h2 := dayL_len e.day
        have h3 := placeL_len hp1.out e.place
        have h4 := sgnL_len e.litres i1
        have h5 := whyL_len e.why
        have h6 := sgnL_len e.ref i2
        unfold rowL
        rw [row_sum]
        simp
        omega
      have KL := rline_any X pl e wr.drew (tr.drewN 1) (fN _ (br.trans (Below.refl N _).drew)) (by show N ≤ wr.heap.size; omega) i3 i4 i1 i2 hpl hp1
      obtain ⟨rw1, erw⟩ : ∃ r, rowL pl e = r := ⟨_, rfl⟩
      rw [erw] at KL hstep hrl
      clear erw
      have zrw : (bs rw1).size = rw1.length := bs_size _
      obtain ⟨q1, eq1⟩ : ∃ f, f = tj ++ rw1 := ⟨_, rfl⟩
      have sq1 : bs tj ++ bs rw1 = bs q1 := by rw [eq1]; apply ByteArray.ext; simp [bs]
      have zq1 : (bs q1).size = q1.length := bs_size _
      have nq1 : q1.length = tj.length + rw1.length := by rw [eq1, List.length_append]
      have gq1 : ¬ (9223372036854775807 : Int) < (tj.length : Int) + (rw1.length : Int) := by (try simp only [List.length_cons, List.length_nil] at *); omega
      have kq1 : ¬ 9223372036854775807 < (tj.length) + (rw1.length) := by (try simp only [List.length_cons, List.length_nil] at *); omega
      replace KL := Lib.hid KL
      have hq1 : q1.length ≤ 1300000 + (j + 1) * 1100100 := by rw [Nat.succ_mul]; omega
      have hqj : Hid (q1 = tx ++ Lf (j + 1)) := by show _ = _; rw [eq1, htj.out, hstep.out, List.append_assoc]
      clear eq1 nq1
      have hjL : (j : Int) < (L.length : Int) := by omega
      go_upto_region 13 with fail
      refine Plan.wp_region_treeS (fun wx => wx.heap[N]? = some (basO X X.a1 X.l1 pl.length) ∧ wx.cell? ⟨b, off + j * 7, none⟩ = some (.int .i64 e.day) ∧ wx.cell? ⟨b, off + j * 7 + 1, none⟩ = some (.int .i64 e.known) ∧ wx.cell? ⟨b, off + j * 7 + 2, none⟩ = some (.int .i64 e.owner) ∧ wx.cell? ⟨b, off + j * 7 + 3, none⟩ = some (.int .i64 e.place) ∧ wx.cell? ⟨b, off + j * 7 + 4, none⟩ = some (.int .i64 e.litres) ∧ wx.cell? ⟨b, off + j * 7 + 5, none⟩ = some (.int .i64 e.why) ∧ wx.cell? ⟨b, off + j * 7 + 6, none⟩ = some (.int .i64 e.ref)) (.rd 0 (.rd 1 (.rd 2 (.rd 3 (.rd 4 (.rd 5 (.wr 6 (.rd 7 (.rd 8 .done))))))))) (by kernel_rfl) (by kernel_rfl) ⟨xr, r0, r1, r2, r3, r4, r5, r6⟩ ?_
      (repeat (first | (refine Plan.tree_read (v := ?_) rfl rfl ?_ ?_; rotate_left; (focus ((intro wS hSw; have hSx := And.intro (basO_cells (And.left hSw)) (And.right hSw); go_simp); try with_reducible rfl)); simp only [Act.put, List.setIfInBounds_toArray, List.set_cons_zero, List.set_cons_succ]) | (refine Plan.tree_skip rfl rfl ?_; simp only [Act.put, List.setIfInBounds_toArray, List.set_cons_zero, List.set_cons_succ])))
      (refine Plan.tree_write rfl (fun K hK => ?_); try go_simp)
      go_at_call 29
      refine KL.out.mono ?_
      rintro u11 w11 ⟨rfl, hb11⟩
      replace hb11 : Below wr.heap.size wr w11 := (Below.refl _ _).drew.trans hb11
      have x11 := (hb11.block N zr).trans xr
      have ky : ∀ o, w11.cell? ⟨b, o, none⟩ = wr.cell? ⟨b, o, none⟩ := fun o => hb11.cell (p := ⟨b, o, none⟩) hbw
      have KY := Lib.hid ky
      clear ky
      (refine hK.out _ _ (⟨x11, (KY.out _).trans r0, (KY.out _).trans r1, (KY.out _).trans r2, (KY.out _).trans r3, (KY.out _).trans r4, (KY.out _).trans r5, (KY.out _).trans r6⟩) ?_; clear hK K; try simp only [Act.put, List.setIfInBounds_toArray, List.set_cons_zero, List.set_cons_succ])
      (repeat (first | (refine Plan.tree_read (v := ?_) rfl rfl ?_ ?_; rotate_left; (focus ((intro wS hSw; have hSx := And.intro (basO_cells (And.left hSw)) (And.right hSw); go_simp); try with_reducible rfl)); simp only [Act.put, List.setIfInBounds_toArray, List.set_cons_zero, List.set_cons_succ]) | (refine Plan.tree_skip rfl rfl ?_; simp only [Act.put, List.setIfInBounds_toArray, List.set_cons_zero, List.set_cons_succ])))
      refine Plan.tree_done ?_
      go_wp2_with fail
      go_roundw
      case rel => exact ⟨j + 1, q1, by omega, by go_num, rfl, hqj, hq1, hbr.trans (hb11.mono hzr), Nat.le_trans hzr hb11.size⟩
      case measure => simp [intOf]; omega
    · have hje : j = L.length := by omega
      subst hje
      obtain ⟨c1, ec1⟩ : ∃ f, f = tj ++ ([99, 108, 111, 115, 105, 110, 103, 32] : Bts) := ⟨_, rfl⟩
      have sc1 : bs tj ++ (⟨#[99, 108, 111, 115, 105, 110, 103, 32]⟩ : ByteArray) = bs c1 := by rw [ec1]; apply ByteArray.ext; simp [bs]
      have zc1 : (bs c1).size = c1.length := bs_size _
      have nc1 : c1.length = tj.length + ([99, 108, 111, 115, 105, 110, 103, 32] : Bts).length := by rw [ec1, List.length_append]
      have gc1 : ¬ (9223372036854775807 : Int) < (tj.length : Int) + 8 := by (try simp only [List.length_cons, List.length_nil] at *); omega
      have kc1 : ¬ 9223372036854775807 < (tj.length) + 8 := by (try simp only [List.length_cons, List.length_nil] at *); omega
      obtain ⟨c2, ec2⟩ : ∃ f, f = c1 ++ sB := ⟨_, rfl⟩
      have sc2 : bs c1 ++ bs sB = bs c2 := by rw [ec2]; apply ByteArray.ext; simp [bs]
      have zc2 : (bs c2).size = c2.length := bs_size _
      have nc2 : c2.length = c1.length + sB.length := by rw [ec2, List.length_append]
      have gc2 : ¬ (9223372036854775807 : Int) < (c1.length : Int) + (sB.length : Int) := by (try simp only [List.length_cons, List.length_nil] at *); omega
      have kc2 : ¬ 9223372036854775807 < (c1.length) + (sB.length) := by (try simp only [List.length_cons, List.length_nil] at *); omega
      obtain ⟨c3, ec3⟩ : ∃ f, f = c2 ++ ([10] : Bts) := ⟨_, rfl⟩
      have sc3 : bs c2 ++ (⟨#[10]⟩ : ByteArray) = bs c3 := by rw [ec3]; apply ByteArray.ext; simp [bs]
      have zc3 : (bs c3).size = c3.length := bs_size _
      have nc3 : c3.length = c2.length + ([10] : Bts).length := by rw [ec3, List.length_append]
      have gc3 : ¬ (9223372036854775807 : Int) < (c2.length : Int) + 1 := by (try simp only [List.length_cons, List.length_nil] at *); omega
      have kc3 : ¬ 9223372036854775807 < (c2.length) + 1 := by (try simp only [List.length_cons, List.length_nil] at *); omega
      obtain rfl : c3 = S := by rw [hS.out, ← htj.out]; rw [ec3]; rw [ec2]; rw [ec1]; simp
      clear ec1 nc1 ec2 nc2 ec3 nc3 hS
      have KSm := sumw_any L D dc wr (EntsAt.below hE10.out hbr) hzr hML.out
      obtain ⟨sL, hsL⟩ : ∃ s, litS L = s := ⟨_, rfl⟩
      have hsum2 := hsum.out
      rw [hsL] at KSm hsum2
      replace KSm := Lib.hid KSm
      clear hsL
      have hw1 : IntKind.i64.wrap (a1 + sL) = a2 := by rw [hsum2, IntKind.wrap_i64]; obtain ⟨y1, y2⟩ := hi2; omega
      have hss : ((bs c3).toList == (bs c3).toList) = true := by simp
      have y1 := hi2.1
      have y2 := hi2.2
      go_wp2_with (first | (go_at_call 24; refine KSm.out.mono ?_; rintro e31 _ ⟨rfl, rfl⟩) | (go_at_call 28; refine (KG2.out wr).mono ?_; rintro e32 w32 ⟨rfl, hb32⟩) | fail)
      go_ret
      refine ⟨rfl, ?_⟩
      first | exact br.trans (hb32.mono (by omega)) | (rw [hNN]; exact br.trans (hb32.mono (by omega)))
end Go.Proofs.YtminphldifncaaaDoor

