/- WalJoins answers true for every input. -/
import Derived.Test.YtmnimcdbfolhaaaL1
set_option linter.unusedSimpArgs false
set_option linter.unusedVariables false
namespace Go.Proofs.Ytmnimcdbfolhaaa
open Go.RowKit DK
attribute [local go_sem] alloc_drewN setCell_drewN shape_drewN
/-- append under a guard that lets it run. -/
theorem wpList_append_g {w : World} {P : Program} {ops : Array Oper} {rest : List Oper} {o : Oper} {a : Act} {Q : Exit → Act → World → Prop} (hwt : Region.wanted o (yielded ops a.tmps) = true) (s x : Operand) (t : TypeId)
    (ho : o.op = .call { callee := .builtin .append, args := #[s, x], argTypes := #[t, t] })
    (base : Nat) (e : TypeId) (i : TypeInfo) (z : Value) (size bytes : Nat) (ht : P.underlying t = some (.slice e)) (hi : P.info? e = some i) (hz : i.zero = some z)
    (hsize : i.size = size) (hby : i.bytes = bytes) (hzs : z.cells.size = size) (hsz : 0 < size)
    (v : Value) (n : Nat) (xs : List Value) (hs : a.eval s = v) (hown : w.ownsRow base e size v n xs)
    (B : Nat) (A : Option Addr) (m c : Nat) (news : List Value) (hx : a.eval x = .slice A m c) (hr : Reads w B size A m news) (h1 : ∀ u ∈ news, u.oneCell' = true)
    (h63 : n + m ≤ maxLen) (hbytes : (n + m) * bytes ≤ 140737488355328) (hbase : base ≤ w.heap.size)
    (h : ∀ v' w', w'.ownsRow base e size v' (n + m) (xs ++ news) → w.grownBy w' v.ownBlock → (v'.ownBlock = v.ownBlock ∨ v'.ownBlock = some w.heap.size) → wpList P ops Q rest (a.put o.dst v') w') : wpList P ops Q (o :: rest) a w :=
  wpList_step fun _ hK => by
    rw [if_pos hwt]
    exact wp_append_any w s x t ho base e i z size bytes ht hi hz hsize hby hzs hsz v n xs hs hown B A m c news hx hr h1 h63 hbytes hbase fun v' w' h2 h3 h4 => hK _ _ (h v' w' h2 h3 h4)
theorem DK.appS_data (s : St) (f : Nat) (x : Bts) : (appS s f x).data = upd s.data f (s.data f ++ recd x) := rfl
theorem strV_app (a b : List Bts) : strV (a ++ b) = strV a ++ strV b := by simp [strV]
set_option maxRecDepth 100000 in
set_option maxHeartbeats 4000000 in
theorem joins_any (A : Option Addr) (c : Nat) (l : List Bts) (B : Option Addr) (d : Nat) (m : List Bts) (w : World) (hA : StrsAt w w.heap.size A l) (hl : l.length ≤ 9223372036854775807) (hS : Hid (∀ x ∈ l, x.length ≤ 140737488355328))
    (hB : StrsAt w w.heap.size B m) (hm : m.length ≤ 9223372036854775807) (hT : Hid (∀ x ∈ m, x.length ≤ 140737488355328)) :
    Calls Try.prog 4 #[.slice A l.length c, .slice B m.length d] w (BoolIs true w) := by
  go_enter Try.func4, Try.ntmps4
  go_wp2_with fail
  go_at_call 9
  refine (small_any w).mono ?_
  rintro e w1 ⟨rfl, hb1⟩
  have KB := Lib.hid (bytes_any A c l w1 (hA.on hb1) hl hS)
  have KC := Lib.hid (bytes_any B d m w1 (hB.on hb1) hm hT)
  go_wp2_with fail
  go_at_call 10
  refine KB.out.mono ?_
  rintro e _ ⟨rfl, rfl⟩
  by_cases g : bytesP l ≤ 1500 ∧ bytesP m ≤ 1500
  case neg =>
    rcases Nat.lt_or_ge 1500 (bytesP l) with q | q
    · have q1 : decide ((1500 : Int) < (bytesP l : Int)) = true := decide_eq_true (by omega)
      go_wp2_with fail
      go_ret
      exact ⟨rfl, hb1⟩
    · have q1 : decide ((1500 : Int) < (bytesP l : Int)) = false := decide_eq_false (by omega)
      have q2 : decide ((1500 : Int) < (bytesP m : Int)) = true := decide_eq_true (by omega)
      have q0 : ¬ 1500 < bytesP l := by omega
      have q3 : 1500 < bytesP m := by omega
      go_wp2_with fail
      go_at_call 10
      refine KC.out.mono ?_
      rintro e _ ⟨rfl, rfl⟩
      go_wp2_with fail
      go_ret
      exact ⟨rfl, hb1⟩
  obtain ⟨g1, g2⟩ := g
  obtain ⟨h1, h2, h3⟩ := bytesP_le g1 (by omega)
  obtain ⟨i1, i2, i3⟩ := bytesP_le g2 (by omega)
  have q1 : decide ((1500 : Int) < (bytesP l : Int)) = false := decide_eq_false (by omega)
  have q2 : decide ((1500 : Int) < (bytesP m : Int)) = false := decide_eq_false (by omega)
  have q0 : ¬ 1500 < bytesP l := by omega
  have q3 : ¬ 1500 < bytesP m := by omega
  have hrl := recs_len l
  have hrm := recs_len m
  have hLl : (recs l).length ≤ 1710 := by omega
  have hLm : (recs m).length ≤ 1710 := by omega
  have hl1 : ∀ x ∈ l, x.length ≤ 1048576 := fun x hx => by have := h2 x hx; omega
  have hm1 : ∀ x ∈ m, x.length ≤ 1048576 := fun x hx => by have := i2 x hx; omega
  have hrow := rowsOf_recs hl1
  have KF := Lib.hid fun wx (h : Below w.heap.size w wx) => file_any A c l wx (hA.on h) (by omega) hl1 (by omega)
  have KG := Lib.hid fun wx (h : Below w.heap.size w wx) => file_any B d m wx (hB.on h) (by omega) hm1 (by omega)
  have hlm : ∀ x ∈ l ++ m, x.length ≤ 1048576 := fun x hx => by
    rcases List.mem_append.1 hx with hx | hx
    · exact hl1 x hx
    · exact hm1 x hx
  have KH := Lib.hid fun wx C k (h : StrsAt wx wx.heap.size C (l ++ m)) => file_any C k (l ++ m) wx h (by rw [List.length_append]; omega) hlm (by rw [recs_app, List.length_append]; omega)
  unfold FileIs at KF KG KH
  rw [recs_app, ← bs_app] at KH
  obtain ⟨i0, hi, hz0, hz1, hz2⟩ := info_parts (show (Try.prog.info? 9).map (fun i => (i.zero, i.size, i.bytes)) = some (some (.string ⟨#[]⟩), 1, 16) by kernel_rfl)
  go_wp2_with fail
  go_at_call 10
  refine KC.out.mono ?_
  rintro e _ ⟨rfl, rfl⟩
  clear KB KC g1 g2
  go_wp2_with fail
  go_at_call 11
  refine (KF.out _ hb1).mono ?_
  rintro e w2 ⟨rfl, hb2⟩
  replace hb2 := trans2 hb1 hb2
  clear hb1 q1 q2 q0 q3
  go_wp2_with fail
  go_at_call 11
  refine (KG.out _ hb2).mono ?_
  rintro e w3 ⟨rfl, hb3⟩
  replace hb3 := trans2 hb2 hb3
  clear hb2
  have hO : (w3.alloc (.cells #[] 9)).ownsRow w3.heap.size 9 1 (.slice (some ⟨w3.heap.size, 0, none⟩) 0 0) 0 [] := World.ownsRow_made w3 #[] 0 (Nat.le_refl _) (Nat.zero_le _) rfl
  replace hO := Lib.hid hO
  have hr1 := Lib.hid (reads_strs (hA.on (trans2 hb3 (below_new w3 (.cells #[] 9)))))
  have hr2 := Lib.hid (reads_strs (hB.on hb3))
  obtain ⟨nl, hnl⟩ : ∃ n, l.length = n := ⟨_, rfl⟩
  obtain ⟨nm, hnm⟩ : ∃ n, m.length = n := ⟨_, rfl⟩
  rw [hnl] at h1 hr1 hl ⊢
  rw [hnm] at i1 hr2 hm ⊢
  replace hnl := Lib.hid hnl
  replace hnm := Lib.hid hnm
  have hnn : (l ++ m).length = nl + nm := by rw [List.length_append, hnl.out, hnm.out]
  rw [hnn] at KH
  go_wp2_with (first | (at_builtin; refine wpList_append_any _ (by rfl) _ _ 22 (by rfl) w3.heap.size 9 i0 _ 1 16 Try.underlying22 hi hz0 hz1 hz2 rfl (by decide) _ 0 [] (by rfl) hO.out _ A nl c _ (by rfl) hr1.out (fun u hu => by obtain ⟨x, _, rfl⟩ := List.mem_map.1 hu; rfl) (by unfold maxLen; omega) (by omega) (by simp) ?_; intro v1 w4 hO4 hG4 hob4; have hb4 := (below_new w3 _).trans (below_own hO.out (by simp) hG4); rw [List.nil_append, Nat.zero_add] at hO4; replace hO4 := Lib.hid hO4; replace hb4 := Lib.hid hb4) | (at_builtin; refine wpList_append_any _ (by rfl) _ _ 22 (by rfl) w3.heap.size 9 i0 _ 1 16 Try.underlying22 hi hz0 hz1 hz2 rfl (by decide) _ nl _ (by rfl) hO4.out _ B nm d _ (by rfl) (hr2.out.below hb4.out) (fun u hu => by obtain ⟨x, _, rfl⟩ := List.mem_map.1 hu; rfl) (by unfold maxLen; omega) (by omega) (by exact hb4.out.size) ?_; intro v2 w5 hO5 hG5 hob5; have hb5 := hb4.out.trans (below_own hO4.out hb4.out.size hG5); obtain ⟨o5, cc5, hv5, _⟩ := ad_of_owns hO5; subst hv5; replace hO5 := Lib.hid hO5; replace hb5 := Lib.hid hb5) | (go_at_call 11; refine (KH.out _ _ _ (strs_of_owns (l := l ++ m) (by rw [hnn, strV_app]; exact hO5.out)).at_).mono ?_; rintro e w6 ⟨rfl, hb6⟩) | fail)
  replace hb6 := (hb3.trans (hb5.out.mono hb3.size)).trans (hb6.mono (Nat.le_trans hb3.size hb5.out.size))
  clear KF KG KH hO hr1 hr2 hO4 hO5 hb3 hb4 hG4 hG5 hb5
  -- the disk's states
  have a1 := append_up Up.zero (f := 0) (by omega) (recs l) (by show 0 + _ ≤ _; omega)
  obtain ⟨s1, hs1⟩ : ∃ s1, s1 = ({ St.zero with data := upd St.zero.data 0 (St.zero.data 0 ++ recs l), q := St.zero.q ++ pend 0 (St.zero.data 0).length (recs l) } : St) := ⟨_, rfl⟩
  rw [← hs1] at a1
  have g1 : G s1 := by
    have h1 := Up.zero.append ((0 : Nat) : Int) (recs l)
    have h2 := Ok.zero.append ((0 : Nat) : Int) (recs l)
    have h3 := Cov.zero.append Ok.zero ((0 : Nat) : Int) (recs l)
    rw [a1] at h1 h2 h3
    exact ⟨h1, h2, h3⟩
  have d1 : s1.data 0 = recs l := by rw [hs1]; show upd St.zero.data 0 (St.zero.data 0 ++ recs l) 0 = recs l; rw [upd_same]; rfl
  have ho := open_up g1.up (f := 0) (by omega)
  have g2 := g1.opn (f := 0) (by omega)
  obtain ⟨s2, hs2⟩ : ∃ s2, opnS s1 0 = s2 := ⟨_, rfl⟩
  rw [hs2] at ho g2
  have hw := wrew_up g2.up (f := 0) (by omega) l m (by omega)
  have g3 := g2.rew (f := 0) (by omega) m (by omega)
  have d3 := rewS_data s2 0 m
  obtain ⟨s3, hs3⟩ : ∃ s3, rewS s2 0 m = s3 := ⟨_, rfl⟩
  rw [hs3] at hw g3 d3
  have hlE : (s3.data 0).length + (([101, 110, 100] : Bts).length + 7) ≤ 16777216 := by rw [d3.1]; simp; omega
  have ha := wapp_g g3 (f := 0) (by omega) m [101, 110, 100] (by decide) hlE
  have g4 := g3.app (f := 0) (by omega) [101, 110, 100] hlE
  obtain ⟨s4, hs4⟩ : ∃ s4, s4 = appS s3 0 [101, 110, 100] := ⟨_, rfl⟩
  rw [← hs4] at ha g4
  have d4 : s4.data 0 = recs (m ++ [[101, 110, 100]]) := by rw [hs4, recs_snoc, appS_data, upd_same, d3.1]
  have d5 : s4.data 1 = [] := by rw [hs4, appS_data, upd_other _ _ (by omega)]; exact d3.2.2.1
  have hzs : DK.size s4 (1 : Nat) = 0 := by rw [size_num (by omega), d5]; rfl
  have hrd := read_up g4.up.down (f := 0) (by omega)
  rw [d4] at hrd
  have hlE2 : ∀ x ∈ m ++ [[101, 110, 100]], x.length ≤ 1048576 := fun x hx => by
    rcases List.mem_append.1 hx with hx | hx
    · exact hm1 x hx
    · obtain rfl := List.mem_singleton.1 hx; decide
  have hrw := rowsOf_recs hlE2
  obtain ⟨now, hnow⟩ : ∃ x, recs (m ++ [[101, 110, 100]]) = x := ⟨_, rfl⟩
  have hnl2 : now.length = (recs m).length + 10 := by rw [← hnow, recs_snoc, List.length_append, recd_len]; rfl
  have hnt : now.take (recs m).length = recs m := by rw [← hnow, recs_snoc, List.take_left]
  have KR := Lib.hid fun wx => rows_any now wx (by omega)
  unfold RowsIs at KR
  rw [← hnow, hrw, hnow] at KR
  rw [hnow] at hrd
  have zl := bs_size (recs l)
  have zm := bs_size (recs m)
  have zn := bs_size now
  obtain ⟨LL, hLL⟩ : ∃ n, (recs l).length = n := ⟨_, rfl⟩
  obtain ⟨LM, hLM⟩ : ∃ n, (recs m).length = n := ⟨_, rfl⟩
  obtain ⟨LN, hLN⟩ : ∃ n, now.length = n := ⟨_, rfl⟩
  have hmx : (m ++ [[101, 110, 100]]).length = nm + 1 := by rw [List.length_append, hnm.out]; rfl
  rw [hmx, hLN] at KR
  have x1 : (bs now).extract 0 LM = bs (recs m) := by rw [bs_cut _ _ _ (by omega), ← hLM, hnt]; rfl
  rw [hLL] at zl hLl
  rw [hLM] at zm hLm hnl2
  rw [hLN] at zn hnl2
  have p1 : ¬ (9223372036854775807 : Int) < (LL : Int) + (LM : Int) := by omega
  have p2 : ¬ 9223372036854775807 < LL + LM := by omega
  have p3 : decide ((LM : Int) ≤ (LN : Int)) = true := decide_eq_true (by omega)
  have p4 : LM ≤ LN := by omega
  have p5 : (LM : Int) ≤ (LN : Int) := by omega
  have p6 : LM ≤ (bs now).size := by omega
  have t1 := bs_toList (recs m)
  have KA := Lib.hid fun (b : Nat) wx (h : HasP w b (fun k => k < w.heap.size) 0 wx St.zero) => h.append (0 : Nat) (recs l) (by omega) (by omega) (v := 0) (s' := s1) (by rw [a1]) (by rw [a1])
  have KO := Lib.hid fun (b : Nat) wx (h : HasP w b (fun k => k < w.heap.size) (0 + 1) wx s1) => open_yes h 0 (by omega) ho (R := l) (by show rowsOf (s1.data 0) = l; rw [d1, hrow])
  have KW := Lib.hid fun (b lb : Nat) wx (h : Wal w b lb 0 (fun k => k < w.heap.size) (0 + 1) wx s2 l) => wrew_any h (by omega) B d (StrsP.of_at (hB.below h.below) h.below.size fun _ q => q) hm1 (by omega) (by omega) hw
  have KE := Lib.hid fun (b lb : Nat) wx (h : Wal w b lb 0 (fun k => k < w.heap.size) (0 + 1 + 1) wx s3 m) => wapp_any h [101, 110, 100] (by decide) (by rw [hnm.out]; omega) (by omega) ha
  have KD := Lib.hid fun (b lb : Nat) wx (h : Wal w b lb 0 (fun k => k < w.heap.size) (0 + 1 + 1 + 1) wx s4 (m ++ [[101, 110, 100]])) => h.has.read (0 : Nat) hrd
  have KZ := Lib.hid fun (b lb : Nat) wx (h : Wal w b lb 0 (fun k => k < w.heap.size) (0 + 1 + 1 + 1) wx s4 (m ++ [[101, 110, 100]])) => h.has.size (1 : Nat) hzs
  rw [hnm.out] at KW
  unfold dp at KA KO KD KZ
  unfold lp at KO KW KE
  clear a1 ho hw ha hrd hrw hnow hLN hLL hLM hnt d1 d3 d4 d5 g1 g2 g3 g4 hs1 hs2 hs3 hs4 hzs hlE hlE2 hrow hrl hrm h3 i3 hlm
  have cE : bs [101, 110, 100] = ⟨#[101, 110, 100]⟩ := rfl
  rw [cE] at KE
  go_at_call 15
  refine (HasP.new (fun k => k < w.heap.size) w6 hb6 (fun k h => Nat.lt_of_lt_of_le h hb6.size)).mono ?_
  rintro e w7 ⟨b, rfl, H7, -, -⟩
  unfold dp
  go_wp2_with fail
  go_at_call 16
  refine (KA.out _ _ H7).mono ?_
  rintro e w8 ⟨rfl, H8, k8⟩
  go_wp2_with fail
  go_at_call 17
  refine (KO.out _ _ H8).mono ?_
  rintro e w9 ⟨lb, rfl, H9, k9, -⟩
  go_wp2_with fail
  go_at_call 18
  refine (KW.out _ _ _ H9).mono ?_
  rintro e w10 ⟨rfl, H10, k10⟩
  go_wp2_with fail
  go_at_call 19
  refine (KE.out _ _ _ H10).mono ?_
  rintro e w11 ⟨rfl, H11, k11⟩
  go_wp2_with fail
  go_at_call 20
  refine (KD.out _ _ _ H11).mono ?_
  rintro e _ ⟨rfl, rfl⟩
  go_wp2_with fail
  go_at_call 12
  refine (KR.out _).mono ?_
  rintro e w12 ⟨hb12, A2, c2, rfl, hS12⟩
  have H12 := H11.below_ hb12
  go_wp2_with fail
  go_at_call 21
  refine (KZ.out _ _ _ H12).mono ?_
  rintro e _ ⟨rfl, rfl⟩
  have hb13 := H12.below
  have hO2 : (w12.alloc (.cells #[] 9)).ownsRow w12.heap.size 9 1 (.slice (some ⟨w12.heap.size, 0, none⟩) 0 0) 0 [] := World.ownsRow_made w12 #[] 0 (Nat.le_refl _) (Nat.zero_le _) rfl
  replace hO2 := Lib.hid hO2
  have hr2 := Lib.hid (reads_strs (hB.on (trans2 hb13 (below_new w12 (.cells #[] 9)))))
  rw [hnm.out] at hr2
  have KS := Lib.hid fun wx C k (h1 : StrsAt wx wx.heap.size A2 (m ++ [[101, 110, 100]])) (h2 : StrsAt wx wx.heap.size C (m ++ [[101, 110, 100]])) => same_any A2 c2 _ C k _ wx h1 h2 (by rw [hmx]; omega) (by rw [hmx]; omega)
  rw [show same (m ++ [[101, 110, 100]]) (m ++ [[101, 110, 100]]) = true from decide_eq_true rfl, hmx] at KS
  go_wp2_with (first | (at_builtin; (refine wpList_append_g (by rfl) _ _ 22 (by rfl) w12.heap.size 9 i0 _ 1 16 Try.underlying22 hi hz0 hz1 hz2 rfl (by decide) _ 0 [] (by rfl) hO2.out _ B nm d _ (by rfl) hr2.out (fun u hu => by obtain ⟨x, _, rfl⟩ := List.mem_map.1 hu; rfl) (by unfold maxLen; omega) (by omega) (by simp) ?_; intro v4 w14 hO4 hG4 hob4; have hb14 := (below_new w12 _).trans (below_own hO2.out (by simp) hG4); rw [List.nil_append, Nat.zero_add] at hO4; replace hO4 := Lib.hid hO4; replace hb14 := Lib.hid hb14)) | (at_builtin; (refine wpList_append_g (by rfl) _ _ 22 (by rfl) w12.heap.size 9 i0 _ 1 16 Try.underlying22 hi hz0 hz1 hz2 rfl (by decide) _ nm _ (by rfl) (hO4.out.alloc _) (_ + 1) (some ⟨w14.heap.size, 0, none⟩) 1 1 [.string ⟨#[101, 110, 100]⟩] (by rfl) ⟨rfl, fun _ => ⟨_, rfl, Nat.lt_succ_self _, cells_at (by rfl) _ _⟩⟩ (fun u hu => by obtain rfl := List.mem_singleton.1 hu; rfl) (by unfold maxLen; omega) (by omega) (by have := hb14.out.size; simp; omega) ?_; intro v5 w15 hO5 hG5 hob5; have hb15 := (hb14.out.alloc hb14.out.size _).trans (below_own (hO4.out.alloc _) (by have := hb14.out.size; simp; omega) hG5); obtain ⟨o5, cc5, hv5, _⟩ := ad_of_owns hO5; subst hv5; replace hO5 := Lib.hid hO5; replace hb15 := Lib.hid hb15)) | (go_at_call 14; refine (KS.out _ _ _ (hS12.on hb15.out) (strs_of_owns (l := m ++ [[101, 110, 100]]) (by rw [hmx, strV_snoc]; exact hO5.out)).at_).mono ?_; rintro e w16 ⟨rfl, hb16⟩) | fail)
  go_ret
  exact ⟨rfl, hb13.trans ((hb15.out.trans (hb16.mono hb15.out.size)).mono hb13.size)⟩
end Go.Proofs.Ytmnimcdbfolhaaa
