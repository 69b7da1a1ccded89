/- Joined of: PD. -/
import Derived.Test.YtmnimcdbfolhaaaG02
import Derived.Test.YtmnimcdbfolhaaaX3
/- The pair of a log and its twin: do. -/
set_option linter.unusedSimpArgs false
set_option linter.unusedVariables false
namespace Go.Proofs.Ytmnimcdbfolhaaa
open Go.RowKit DK
attribute [local go_sem] alloc_drewN setCell_drewN shape_drewN
theorem low_bits (n : Int) : bits .and .i64 n 7 = n % 8 := by
  have h1 : (BitVec.ofInt 64 n &&& BitVec.ofInt 64 7).toNat = (n % 18446744073709551616).toNat % 8 := by
    rw [BitVec.toNat_and, BitVec.toNat_ofInt, BitVec.toNat_ofInt]
    have e1 : ((7 : Int) % ((2 ^ 64 : Nat) : Int)).toNat = 2 ^ 3 - 1 := by decide
    have e2 : ((2 ^ 64 : Nat) : Int) = 18446744073709551616 := by decide
    rw [e1, e2, Nat.and_two_pow_sub_one_eq_mod]
  show IntKind.i64.wrap ((BitVec.ofInt 64 n &&& BitVec.ofInt 64 7).toNat : Int) = _
  rw [h1, IntKind.wrap_i64]
  omega
theorem five_cells {w : World} {N t : Nat} {a b c d e : Value} (h : w.heap[N]? = some (.cells #[a, b, c, d, e] t (0, 0))) : w.cell? ⟨N, 0, none⟩ = some a ∧ w.cell? ⟨N, 1, none⟩ = some b ∧ w.cell? ⟨N, 2, none⟩ = some c ∧ w.cell? ⟨N, 3, none⟩ = some d ∧ w.cell? ⟨N, 4, none⟩ = some e := by
  refine ⟨?_, ?_, ?_, ?_, ?_⟩ <;> simp [World.cell?, h]
theorem wapp_most {s : St} {f : Int} {R : List Bts} {x : Bts} {v : Int} {s' : St} {R' : List Bts} (h : wappS s f R x = (v, s', R')) : R'.length ≤ R.length + 1 := by
  unfold wappS at h
  split at h
  · injection h with _ h; injection h with _ h; rw [← h]; omega
  · injection h with _ h; injection h with _ h; rw [← h]; split <;> simp
theorem wrew_most {s : St} {f : Int} {R m : List Bts} {v : Int} {s' : St} {R' : List Bts} (h : wrewS s f R m = (v, s', R')) : R' = R ∨ R' = m := by
  unfold wrewS at h
  dsimp only at h
  split at h
  · injection h with _ h; injection h with _ h; exact .inl h.symm
  split at h
  · injection h with _ h; injection h with _ h; exact .inl h.symm
  split at h
  · injection h with _ h; injection h with _ h; exact .inl h.symm
  split at h
  · injection h with _ h; injection h with _ h; exact .inl h.symm
  · injection h with _ h; injection h with _ h; exact .inr h.symm
theorem recs_most (l : List Bts) (h1 : l.length ≤ 12) (h2 : ∀ x ∈ l, x.length ≤ 2000) : (recs l).length ≤ 100000 := by
  have : ∀ l : List Bts, (∀ x ∈ l, x.length ≤ 2000) → (recs l).length ≤ l.length * 2007 := fun l => by
    induction l with
    | nil => intro _; simp [recs]
    | cons x l ih =>
      intro h
      have h3 := ih fun y hy => h y (List.mem_cons_of_mem _ hy)
      have h4 := h x (List.mem_cons_self ..)
      rw [recs_cons, List.length_append, recd_len, List.length_cons]
      omega
  have := this l h2
  omega
section
variable {w0 w w' : World} {b lb rb rlb p E n m : Nat} {f : Int} {P : Nat → Prop} {s s' : St} {R : List Bts} {bv av : Array Value} {X Y : Side}
theorem RWal.disk (h : RWal w0 b lb f P n w s R) : ∃ Q, (∀ k, P k → Q k) ∧ RHas w0 b Q n w s ∧ ∀ {n' : Nat} {w' : World} {s' : St}, RHas w0 b Q n' w' s' → Keep Q w w' → RWal w0 b lb f P n' w' s' R ∧ Keep P w w' := by
  obtain ⟨o, c, hL, hP, H⟩ := h.at_
  exact ⟨_, fun _ q => .inl q, H, fun H2 k => ⟨⟨⟨o, c, hL.keep k (.inr (.inl rfl)) (fun g e => .inr (.inr e)), hP, H2⟩, h.base⟩, k.sub fun _ q => .inl q⟩⟩
theorem vlose_any (h : RWal w0 b lb f P n w s R) (k : Int) (hk : k ≤ 9223372036854775807) (hs : DK.lose s k = s') : Calls Try.prog 60 #[dp b, .int .i64 k] w fun e w' => e = .returned (.tuple #[]) ∧ RWal w0 b lb f P n w' s' R ∧ Keep P w w' := by
  obtain ⟨Q, _, H, back⟩ := h.disk
  exact (H.lose k hk hs).mono fun e w' ⟨he, h2, k⟩ => ⟨he, back h2 k⟩
theorem varm_any (h : RWal w0 b lb f P n w s R) {A : Option Addr} {c : Nat} {keep : List Int} (k : Int) (hk : k ≤ 9223372036854775807) (hA : IntsAt w0 w0.heap.size A keep) (hkl : keep.length ≤ 1000000000000) (hs : DK.arm s k keep = s') :
    Calls Try.prog 62 #[dp b, .int .i64 k, .slice A keep.length c] w fun e w' => e = .returned (.tuple #[]) ∧ RWal w0 b lb f P n w' s' R ∧ Keep P w w' := by
  obtain ⟨Q, _, H, back⟩ := h.disk
  exact (H.arm k hk hA hkl hs).mono fun e w' ⟨he, h2, k⟩ => ⟨he, back h2 k⟩
theorem PairIs.more {R : Option (List Bts)} (h : PairIs w0 p b rb n w s f R) (hm : n ≤ m) : PairIs w0 p b rb m w s f R := by
  rcases h with ⟨e, h1, h2⟩ | ⟨R1, lb, rlb, e, h1, h2⟩
  · exact .inl ⟨e, h1.mono (fun _ _ h => HasP.more h hm) (fun _ _ h => RHas.more h hm), h2⟩
  · exact .inr ⟨R1, lb, rlb, e, h1.mono (fun _ _ h => Wal.more h hm) (fun _ _ h => RWal.more h hm), h2⟩
/-- On the way through do: the pair's box and the act's. -/
structure DoX (w0 : World) (p E : Nat) (bv av : Array Value) (X Y : Side) (w : World) : Prop where
  sep : Sep w0 (fun k => k = p ∨ k = E) X Y w
  box : w.heap[p]? = some (.cells bv 55 (0, 0))
  act : w.heap[E]? = some (.cells av 60 (0, 0))
theorem DoX.first (h : DoX w0 p E bv av X Y w) (mY : Mov w0 Y) : ∃ P : Nat → Prop, X P w ∧ (∀ k, k < w0.heap.size → P k) ∧ ∀ {X' : Side} {w' : World}, X' P w' → Keep P w w' → Below w0.heap.size w0 w' → DoX w0 p E bv av X' Y w' := by
  obtain ⟨P, h1, h2, h3, h4⟩ := h.sep.first mY
  exact ⟨P, h1, h3, fun {X'} {w'} x k hb => ⟨h4 x k hb, (k.block p (h.sep.ol p (.inl rfl)).2 (h2 p (.inl rfl))).trans h.box, (k.block E (h.sep.ol E (.inr rfl)).2 (h2 E (.inr rfl))).trans h.act⟩⟩
theorem DoX.second (h : DoX w0 p E bv av X Y w) (mX : Mov w0 X) : ∃ P : Nat → Prop, Y P w ∧ (∀ k, k < w0.heap.size → P k) ∧ ∀ {Y' : Side} {w' : World}, Y' P w' → Keep P w w' → Below w0.heap.size w0 w' → DoX w0 p E bv av X Y' w' := by
  obtain ⟨P, h1, h2, h3, h4⟩ := h.sep.second mX
  exact ⟨P, h1, h3, fun {Y'} {w'} x k hb => ⟨h4 x k hb, (k.block p (h.sep.ol p (.inl rfl)).2 (h2 p (.inl rfl))).trans h.box, (k.block E (h.sep.ol E (.inr rfl)).2 (h2 E (.inr rfl))).trans h.act⟩⟩
theorem DoX.below_ (h : DoX w0 p E bv av X Y w) (mX : Mov w0 X) (mY : Mov w0 Y) (hb : Below w.heap.size w w') : DoX w0 p E bv av X Y w' :=
  ⟨h.sep.below_ mX mY hb, (hb.block p (h.sep.ol p (.inl rfl)).2).trans h.box, (hb.block E (h.sep.ol E (.inr rfl)).2).trans h.act⟩
theorem DoX.mono {X' Y' : Side} (h : DoX w0 p E bv av X Y w) (hX : ∀ P w, X P w → X' P w) (hY : ∀ P w, Y P w → Y' P w) : DoX w0 p E bv av X' Y' w := ⟨h.sep.mono hX hY, h.box, h.act⟩
theorem do_cells {x1 x2 x3 x4 y0 y1 y2 y3 y4 : Value} (h : DoX w0 p E #[x1, x2, x3, x4] #[y0, y1, y2, y3, y4] X Y w) : (w.cell? ⟨p, 0, none⟩ = some x1 ∧ w.cell? ⟨p, 1, none⟩ = some x2 ∧ w.cell? ⟨p, 2, none⟩ = some x3 ∧ w.cell? ⟨p, 3, none⟩ = some x4) ∧ w.cell? ⟨E, 1, none⟩ = some y1 ∧ w.cell? ⟨E, 2, none⟩ = some y2 ∧ w.cell? ⟨E, 3, none⟩ = some y3 ∧ w.cell? ⟨E, 4, none⟩ = some y4 := by
  obtain ⟨-, f1, f2, f3, f4⟩ := five_cells h.act
  refine ⟨⟨?_, ?_, ?_, ?_⟩, f1, f2, f3, f4⟩ <;> simp [World.cell?, h.box]
theorem DoX.pair {av : Array Value} (h : DoX w0 p E #[dp b, lp lb, dp rb, lp rlb] av (WX w0 b lb f n s R) (VX w0 rb rlb f n s R) w) : PairIs w0 p b rb n w s f (some R) :=
  .inr ⟨R, lb, rlb, rfl, h.sep.less mov_w mov_v (fun _ q => .inl q), h.box⟩
def DidIs (w0 : World) (p b rb n B : Nat) (e : Ending) (w' : World) : Prop :=
  e = .returned (.bool true) ∧ ∃ s' R', PairIs w0 p b rb (n + 1) w' s' 2 R' ∧ ∀ R1, R' = some R1 → R1.length ≤ B + 16777216
set_option maxRecDepth 100000 in
set_option maxHeartbeats 16000000 in
theorem do_any {B : Nat} (a : WA) (h : Sep w0 (fun k => k = p) (WX w0 b lb 2 n s R) (VX w0 rb rlb 2 n s R) w) (box : w.heap[p]? = some (pairO b (lp lb) rb (lp rlb))) (hn : n ≤ 10000) (hR : R.length ≤ B) (hB : B ≤ 900000000)
    (hL : StrsAt w0 w0.heap.size a.LA a.L) (hK : IntsAt w0 w0.heap.size a.KA a.K) (ha1 : Hid (∀ x ∈ a.L, x.length ≤ 2000)) (ha2 : a.L.length ≤ 12) (ha3 : a.K.length ≤ 8) (ha4 : a.s.length ≤ 2000) (hN : a.n ≤ 9223372036854775807) :
    Calls Try.prog 30 #[pp p, .agg #[.int .i64 a.d, .string (bs a.s), .slice a.LA a.L.length a.Lc, .int .i64 a.n, .slice a.KA a.K.length a.Kc]] w (DidIs w0 p b rb n B) := by
  have e7 := low_bits a.d
  obtain ⟨D, hD⟩ : ∃ D, a.d % 8 = D := ⟨_, rfl⟩
  rw [hD] at e7
  have hD8 : 0 ≤ D ∧ D < 8 := by omega
  clear hD
  obtain ⟨d, s1, LA, Lc, L, an, KA, Kc, K⟩ := a
  dsimp only at e7 hL hK ha1 ha2 ha3 ha4 hN ⊢
  obtain ⟨NL, hNL⟩ : ∃ m, L.length = m := ⟨_, rfl⟩
  obtain ⟨NK, hNK⟩ : ∃ m, K.length = m := ⟨_, rfl⟩
  rw [hNL, hNK]
  unfold pp
  obtain ⟨w1, hw1⟩ : ∃ W, W = w.alloc (.cells #[.int .i64 d, .string (bs s1), .slice LA NL Lc, .int .i64 an, .slice KA NK Kc] 60) := ⟨_, rfl⟩
  obtain ⟨E, hE⟩ : ∃ N, w.heap.size = N := ⟨_, rfl⟩
  have X1 : DoX w0 p E #[dp b, lp lb, dp rb, lp rlb] #[.int .i64 d, .string (bs s1), .slice LA NL Lc, .int .i64 an, .slice KA NK Kc] (WX w0 b lb 2 n s R) (VX w0 rb rlb 2 n s R) w1 := by
    have hs := h.laid mov_w mov_v (.cells #[.int .i64 d, .string (bs s1), .slice LA NL Lc, .int .i64 an, .slice KA NK Kc] 60)
    rw [← hw1, hE] at hs
    refine ⟨hs, ?_, ?_⟩
    · rw [hw1]; exact (Below.heap_alloc _ _ _ (h.ol p rfl).2).trans box
    · rw [hw1, ← hE]; exact World.alloc_heap_new _ _
  clear h box
  have hA1 := (five_cells X1.act).1
  have hdr : ∀ w : World, Below w.heap.size w w.drew := fun w => (Below.refl _ _).drew
  replace X1 := Lib.hid X1
  go_enter Try.func30, Try.ntmps30
  go_upto_region 1 with fail
  try rw [hE]
  rw [← hw1]
  clear hw1 hE
  have hc : D = 0 ∨ D = 1 ∨ D = 2 ∨ D = 3 ∨ D = 4 ∨ D = 5 ∨ D = 6 ∨ D = 7 := by omega
  clear hD8
  rcases hc with hD | hD | hD | hD | hD | hD | hD | hD
  · subst hD
    obtain ⟨v, s4, R4, hv⟩ : ∃ v s4 R4, wappS s 2 R s1 = (v, s4, R4) := ⟨_, _, _, rfl⟩
    have hlen := wapp_most hv
    replace hv := Lib.hid hv
    have X1d := X1.out.below_ mov_w mov_v (hdr w1)
    obtain ⟨P1, hW, ho1, back1⟩ := X1d.first mov_v
    have hW : Wal w0 b lb 2 P1 n w1.drew s R := hW
    have K1 := Lib.hid (wapp_any hW s1 (by omega) (by omega) (by omega) hv.out)
    unfold lp at K1
    go_upto_region 5 with fail
    refine Plan.wp_region_treeS (fun wx => (wx.cell? ⟨p, 0, none⟩ = some (.pointer (some ⟨b, 0, none⟩)) ∧ wx.cell? ⟨p, 1, none⟩ = some (.pointer (some ⟨lb, 0, none⟩)) ∧ wx.cell? ⟨p, 2, none⟩ = some (.pointer (some ⟨rb, 0, none⟩)) ∧ wx.cell? ⟨p, 3, none⟩ = some (.pointer (some ⟨rlb, 0, none⟩))) ∧ wx.cell? ⟨E, 1, none⟩ = some (.string (bs s1)) ∧ wx.cell? ⟨E, 2, none⟩ = some (.slice LA NL Lc) ∧ wx.cell? ⟨E, 3, none⟩ = some (.int .i64 an) ∧ wx.cell? ⟨E, 4, none⟩ = some (.slice KA NK Kc)) (.rd 0 (.rd 1 (.rd 2 (.rd 3 (.rd 4 (.rd 5 (.rd 7 (.rd 8 (.rd 9 (.rd 10 (.rd 11 (.rd 12 (.wr 6 (.wr 13 (.rd 14 (.rd 15 .done)))))))))))))))) (by kernel_rfl) (by kernel_rfl) (do_cells X1d) ?_
    (repeat (refine Plan.tree_read (v := ?_) rfl rfl ?_ ?_; rotate_left; (focus ((intro wS hSw; (try dsimp only at hSw); go_simp); try with_reducible rfl)); simp only [Act.put, List.setIfInBounds_toArray, List.set_cons_zero, List.set_cons_succ]))
    (refine Plan.tree_write rfl (fun K hK => ?_); try go_simp)
    go_at_call 19
    refine K1.out.mono ?_
    rintro e w2 ⟨rfl, H_, k_⟩
    have X2 := back1 (X' := WX w0 b lb 2 (n + 1) s4 R4) H_ k_ H_.below
    clear H_ k_ K1 hW X1d back1 ho1
    obtain ⟨P2, hV, ho2, back2⟩ := X2.second mov_w
    have hV : RWal w0 rb rlb 2 P2 n w2 s R := hV
    have K2 := Lib.hid (rwapp_any hV s1 (by omega) (by omega) (by omega) hv.out)
    unfold lp at K2
    (refine hK.out _ _ ((do_cells X2)) ?_; clear hK K; try simp only [Act.put, List.setIfInBounds_toArray, List.set_cons_zero, List.set_cons_succ])
    (repeat (refine Plan.tree_read (v := ?_) rfl rfl ?_ ?_; rotate_left; (focus ((intro wS hSw; (try dsimp only at hSw); go_simp); try with_reducible rfl)); simp only [Act.put, List.setIfInBounds_toArray, List.set_cons_zero, List.set_cons_succ]))
    (refine Plan.tree_write rfl (fun K hK => ?_); try go_simp)
    go_at_call 54
    refine K2.out.mono ?_
    rintro e w3 ⟨rfl, H_, k_⟩
    have X3 := back2 (Y' := VX w0 rb rlb 2 (n + 1) s4 R4) H_ k_ H_.below
    clear H_ k_ K2 hV back2 ho2
    (refine hK.out _ _ ((do_cells X3)) ?_; clear hK K; try simp only [Act.put, List.setIfInBounds_toArray, List.set_cons_zero, List.set_cons_succ])
    (repeat (refine Plan.tree_read (v := ?_) rfl rfl ?_ ?_; rotate_left; (focus ((intro wS hSw; (try dsimp only at hSw); go_simp); try with_reducible rfl)); simp only [Act.put, List.setIfInBounds_toArray, List.set_cons_zero, List.set_cons_succ]))
    refine Plan.tree_done ?_
    replace X3 := Lib.hid X3
    clear X1 X2
    go_wp2_with fail
    go_ret
    exact ⟨rfl, s4, some R4, X3.out.pair, fun R1 e => by injection e with e; subst e; omega⟩
  · subst hD
    obtain ⟨v, s4, R4, hv⟩ : ∃ v s4 R4, wappS s 2 R s1 = (v, s4, R4) := ⟨_, _, _, rfl⟩
    have hlen := wapp_most hv
    replace hv := Lib.hid hv
    have X1d := X1.out.below_ mov_w mov_v (hdr w1)
    obtain ⟨P1, hW, ho1, back1⟩ := X1d.first mov_v
    have hW : Wal w0 b lb 2 P1 n w1.drew s R := hW
    have K1 := Lib.hid (wapp_any hW s1 (by omega) (by omega) (by omega) hv.out)
    unfold lp at K1
    go_upto_region 5 with fail
    refine Plan.wp_region_treeS (fun wx => (wx.cell? ⟨p, 0, none⟩ = some (.pointer (some ⟨b, 0, none⟩)) ∧ wx.cell? ⟨p, 1, none⟩ = some (.pointer (some ⟨lb, 0, none⟩)) ∧ wx.cell? ⟨p, 2, none⟩ = some (.pointer (some ⟨rb, 0, none⟩)) ∧ wx.cell? ⟨p, 3, none⟩ = some (.pointer (some ⟨rlb, 0, none⟩))) ∧ wx.cell? ⟨E, 1, none⟩ = some (.string (bs s1)) ∧ wx.cell? ⟨E, 2, none⟩ = some (.slice LA NL Lc) ∧ wx.cell? ⟨E, 3, none⟩ = some (.int .i64 an) ∧ wx.cell? ⟨E, 4, none⟩ = some (.slice KA NK Kc)) (.rd 0 (.rd 1 (.rd 2 (.rd 3 (.rd 4 (.rd 5 (.rd 7 (.rd 8 (.rd 9 (.rd 10 (.rd 11 (.rd 12 (.wr 6 (.wr 13 (.rd 14 (.rd 15 .done)))))))))))))))) (by kernel_rfl) (by kernel_rfl) (do_cells X1d) ?_
    (repeat (refine Plan.tree_read (v := ?_) rfl rfl ?_ ?_; rotate_left; (focus ((intro wS hSw; (try dsimp only at hSw); go_simp); try with_reducible rfl)); simp only [Act.put, List.setIfInBounds_toArray, List.set_cons_zero, List.set_cons_succ]))
    (refine Plan.tree_write rfl (fun K hK => ?_); try go_simp)
    go_at_call 19
    refine K1.out.mono ?_
    rintro e w2 ⟨rfl, H_, k_⟩
    have X2 := back1 (X' := WX w0 b lb 2 (n + 1) s4 R4) H_ k_ H_.below
    clear H_ k_ K1 hW X1d back1 ho1
    obtain ⟨P2, hV, ho2, back2⟩ := X2.second mov_w
    have hV : RWal w0 rb rlb 2 P2 n w2 s R := hV
    have K2 := Lib.hid (rwapp_any hV s1 (by omega) (by omega) (by omega) hv.out)
    unfold lp at K2
    (refine hK.out _ _ ((do_cells X2)) ?_; clear hK K; try simp only [Act.put, List.setIfInBounds_toArray, List.set_cons_zero, List.set_cons_succ])
    (repeat (refine Plan.tree_read (v := ?_) rfl rfl ?_ ?_; rotate_left; (focus ((intro wS hSw; (try dsimp only at hSw); go_simp); try with_reducible rfl)); simp only [Act.put, List.setIfInBounds_toArray, List.set_cons_zero, List.set_cons_succ]))
    (refine Plan.tree_write rfl (fun K hK => ?_); try go_simp)
    go_at_call 54
    refine K2.out.mono ?_
    rintro e w3 ⟨rfl, H_, k_⟩
    have X3 := back2 (Y' := VX w0 rb rlb 2 (n + 1) s4 R4) H_ k_ H_.below
    clear H_ k_ K2 hV back2 ho2
    (refine hK.out _ _ ((do_cells X3)) ?_; clear hK K; try simp only [Act.put, List.setIfInBounds_toArray, List.set_cons_zero, List.set_cons_succ])
    (repeat (refine Plan.tree_read (v := ?_) rfl rfl ?_ ?_; rotate_left; (focus ((intro wS hSw; (try dsimp only at hSw); go_simp); try with_reducible rfl)); simp only [Act.put, List.setIfInBounds_toArray, List.set_cons_zero, List.set_cons_succ]))
    refine Plan.tree_done ?_
    replace X3 := Lib.hid X3
    clear X1 X2
    go_wp2_with fail
    go_ret
    exact ⟨rfl, s4, some R4, X3.out.pair, fun R1 e => by injection e with e; subst e; omega⟩
  · subst hD
    obtain ⟨v, s4, R4, hv⟩ : ∃ v s4 R4, wappS s 2 R s1 = (v, s4, R4) := ⟨_, _, _, rfl⟩
    have hlen := wapp_most hv
    replace hv := Lib.hid hv
    have X1d := X1.out.below_ mov_w mov_v (hdr w1)
    obtain ⟨P1, hW, ho1, back1⟩ := X1d.first mov_v
    have hW : Wal w0 b lb 2 P1 n w1.drew s R := hW
    have K1 := Lib.hid (wapp_any hW s1 (by omega) (by omega) (by omega) hv.out)
    unfold lp at K1
    go_upto_region 5 with fail
    refine Plan.wp_region_treeS (fun wx => (wx.cell? ⟨p, 0, none⟩ = some (.pointer (some ⟨b, 0, none⟩)) ∧ wx.cell? ⟨p, 1, none⟩ = some (.pointer (some ⟨lb, 0, none⟩)) ∧ wx.cell? ⟨p, 2, none⟩ = some (.pointer (some ⟨rb, 0, none⟩)) ∧ wx.cell? ⟨p, 3, none⟩ = some (.pointer (some ⟨rlb, 0, none⟩))) ∧ wx.cell? ⟨E, 1, none⟩ = some (.string (bs s1)) ∧ wx.cell? ⟨E, 2, none⟩ = some (.slice LA NL Lc) ∧ wx.cell? ⟨E, 3, none⟩ = some (.int .i64 an) ∧ wx.cell? ⟨E, 4, none⟩ = some (.slice KA NK Kc)) (.rd 0 (.rd 1 (.rd 2 (.rd 3 (.rd 4 (.rd 5 (.rd 7 (.rd 8 (.rd 9 (.rd 10 (.rd 11 (.rd 12 (.wr 6 (.wr 13 (.rd 14 (.rd 15 .done)))))))))))))))) (by kernel_rfl) (by kernel_rfl) (do_cells X1d) ?_
    (repeat (refine Plan.tree_read (v := ?_) rfl rfl ?_ ?_; rotate_left; (focus ((intro wS hSw; (try dsimp only at hSw); go_simp); try with_reducible rfl)); simp only [Act.put, List.setIfInBounds_toArray, List.set_cons_zero, List.set_cons_succ]))
    (refine Plan.tree_write rfl (fun K hK => ?_); try go_simp)
    go_at_call 19
    refine K1.out.mono ?_
    rintro e w2 ⟨rfl, H_, k_⟩
    have X2 := back1 (X' := WX w0 b lb 2 (n + 1) s4 R4) H_ k_ H_.below
    clear H_ k_ K1 hW X1d back1 ho1
    obtain ⟨P2, hV, ho2, back2⟩ := X2.second mov_w
    have hV : RWal w0 rb rlb 2 P2 n w2 s R := hV
    have K2 := Lib.hid (rwapp_any hV s1 (by omega) (by omega) (by omega) hv.out)
    unfold lp at K2
    (refine hK.out _ _ ((do_cells X2)) ?_; clear hK K; try simp only [Act.put, List.setIfInBounds_toArray, List.set_cons_zero, List.set_cons_succ])
    (repeat (refine Plan.tree_read (v := ?_) rfl rfl ?_ ?_; rotate_left; (focus ((intro wS hSw; (try dsimp only at hSw); go_simp); try with_reducible rfl)); simp only [Act.put, List.setIfInBounds_toArray, List.set_cons_zero, List.set_cons_succ]))
    (refine Plan.tree_write rfl (fun K hK => ?_); try go_simp)
    go_at_call 54
    refine K2.out.mono ?_
    rintro e w3 ⟨rfl, H_, k_⟩
    have X3 := back2 (Y' := VX w0 rb rlb 2 (n + 1) s4 R4) H_ k_ H_.below
    clear H_ k_ K2 hV back2 ho2
    (refine hK.out _ _ ((do_cells X3)) ?_; clear hK K; try simp only [Act.put, List.setIfInBounds_toArray, List.set_cons_zero, List.set_cons_succ])
    (repeat (refine Plan.tree_read (v := ?_) rfl rfl ?_ ?_; rotate_left; (focus ((intro wS hSw; (try dsimp only at hSw); go_simp); try with_reducible rfl)); simp only [Act.put, List.setIfInBounds_toArray, List.set_cons_zero, List.set_cons_succ]))
    refine Plan.tree_done ?_
    replace X3 := Lib.hid X3
    clear X1 X2
    go_wp2_with fail
    go_ret
    exact ⟨rfl, s4, some R4, X3.out.pair, fun R1 e => by injection e with e; subst e; omega⟩
  · subst hD
    obtain ⟨v, s4, hv⟩ : ∃ v s4, DK.flush s 2 = (v, s4) := ⟨_, _, rfl⟩
    replace hv := Lib.hid hv
    have X1d := X1.out.below_ mov_w mov_v (hdr w1)
    obtain ⟨P1, hW, ho1, back1⟩ := X1d.first mov_v
    have hW : Wal w0 b lb 2 P1 n w1.drew s R := hW
    have K1 := Lib.hid (wflush_any hW (by omega) hv.out)
    unfold lp at K1
    go_upto_region 7 with fail
    refine Plan.wp_region_treeS (fun wx => (wx.cell? ⟨p, 0, none⟩ = some (.pointer (some ⟨b, 0, none⟩)) ∧ wx.cell? ⟨p, 1, none⟩ = some (.pointer (some ⟨lb, 0, none⟩)) ∧ wx.cell? ⟨p, 2, none⟩ = some (.pointer (some ⟨rb, 0, none⟩)) ∧ wx.cell? ⟨p, 3, none⟩ = some (.pointer (some ⟨rlb, 0, none⟩))) ∧ wx.cell? ⟨E, 1, none⟩ = some (.string (bs s1)) ∧ wx.cell? ⟨E, 2, none⟩ = some (.slice LA NL Lc) ∧ wx.cell? ⟨E, 3, none⟩ = some (.int .i64 an) ∧ wx.cell? ⟨E, 4, none⟩ = some (.slice KA NK Kc)) (.rd 0 (.rd 1 (.rd 2 (.rd 3 (.rd 5 (.rd 6 (.rd 7 (.rd 8 (.wr 4 (.wr 9 (.rd 10 (.rd 11 .done)))))))))))) (by kernel_rfl) (by kernel_rfl) (do_cells X1d) ?_
    (repeat (refine Plan.tree_read (v := ?_) rfl rfl ?_ ?_; rotate_left; (focus ((intro wS hSw; (try dsimp only at hSw); go_simp); try with_reducible rfl)); simp only [Act.put, List.setIfInBounds_toArray, List.set_cons_zero, List.set_cons_succ]))
    (refine Plan.tree_write rfl (fun K hK => ?_); try go_simp)
    go_at_call 22
    refine K1.out.mono ?_
    rintro e w2 ⟨rfl, H_, k_⟩
    have X2 := back1 (X' := WX w0 b lb 2 n s4 R) H_ k_ H_.below
    clear H_ k_ K1 hW X1d back1 ho1
    obtain ⟨P2, hV, ho2, back2⟩ := X2.second mov_w
    have hV : RWal w0 rb rlb 2 P2 n w2 s R := hV
    have K2 := Lib.hid (rwflush_any hV (by omega) hv.out)
    unfold lp at K2
    (refine hK.out _ _ ((do_cells X2)) ?_; clear hK K; try simp only [Act.put, List.setIfInBounds_toArray, List.set_cons_zero, List.set_cons_succ])
    (repeat (refine Plan.tree_read (v := ?_) rfl rfl ?_ ?_; rotate_left; (focus ((intro wS hSw; (try dsimp only at hSw); go_simp); try with_reducible rfl)); simp only [Act.put, List.setIfInBounds_toArray, List.set_cons_zero, List.set_cons_succ]))
    (refine Plan.tree_write rfl (fun K hK => ?_); try go_simp)
    go_at_call 55
    refine K2.out.mono ?_
    rintro e w3 ⟨rfl, H_, k_⟩
    have X3 := back2 (Y' := VX w0 rb rlb 2 n s4 R) H_ k_ H_.below
    clear H_ k_ K2 hV back2 ho2
    (refine hK.out _ _ ((do_cells X3)) ?_; clear hK K; try simp only [Act.put, List.setIfInBounds_toArray, List.set_cons_zero, List.set_cons_succ])
    (repeat (refine Plan.tree_read (v := ?_) rfl rfl ?_ ?_; rotate_left; (focus ((intro wS hSw; (try dsimp only at hSw); go_simp); try with_reducible rfl)); simp only [Act.put, List.setIfInBounds_toArray, List.set_cons_zero, List.set_cons_succ]))
    refine Plan.tree_done ?_
    replace X3 := Lib.hid X3
    clear X1 X2
    go_wp2_with fail
    go_ret
    exact ⟨rfl, s4, some R, X3.out.pair.more (Nat.le_succ _), fun R1 e => by injection e with e; subst e; omega⟩
  · subst hD
    have X1d := (X1.out.mono (X' := HX w0 b n s) (Y' := RX w0 rb n s) (fun _ _ h => Wal.has h) (fun _ _ h => RWal.has h)).below_ mov_h mov_r (hdr w1)
    obtain ⟨P1, hW, ho1, back1⟩ := X1d.first mov_r
    have hW : HasP w0 b P1 n w1.drew s := hW
    obtain ⟨s4, hs4⟩ : ∃ s4, DK.crash s K = s4 := ⟨_, rfl⟩
    replace hs4 := Lib.hid hs4
    have K1 := Lib.hid (hW.crash (c := Kc) (Apart.oldP hW hK) (by omega) (by omega) hs4.out)
    rw [hNK] at K1
    unfold dp at K1
    go_upto_region 9 with fail
    refine Plan.wp_region_treeS (fun wx => (wx.cell? ⟨p, 0, none⟩ = some (.pointer (some ⟨b, 0, none⟩)) ∧ wx.cell? ⟨p, 1, none⟩ = some (.pointer (some ⟨lb, 0, none⟩)) ∧ wx.cell? ⟨p, 2, none⟩ = some (.pointer (some ⟨rb, 0, none⟩)) ∧ wx.cell? ⟨p, 3, none⟩ = some (.pointer (some ⟨rlb, 0, none⟩))) ∧ wx.cell? ⟨E, 1, none⟩ = some (.string (bs s1)) ∧ wx.cell? ⟨E, 2, none⟩ = some (.slice LA NL Lc) ∧ wx.cell? ⟨E, 3, none⟩ = some (.int .i64 an) ∧ wx.cell? ⟨E, 4, none⟩ = some (.slice KA NK Kc)) (.rd 0 (.rd 1 (.rd 2 (.rd 3 (.rd 4 (.rd 5 (.wr 6 .done))))))) (by kernel_rfl) (by kernel_rfl) (do_cells X1d) ?_
    (repeat (refine Plan.tree_read (v := ?_) rfl rfl ?_ ?_; rotate_left; (focus ((intro wS hSw; (try dsimp only at hSw); go_simp); try with_reducible rfl)); simp only [Act.put, List.setIfInBounds_toArray, List.set_cons_zero, List.set_cons_succ]))
    (refine Plan.tree_write rfl (fun K hK => ?_); try go_simp)
    go_at_call 23
    refine K1.out.mono ?_
    rintro e w2 ⟨rfl, H_, k_⟩
    have X2 := back1 (X' := HX w0 b n s4) H_ k_ H_.below
    clear H_ k_ K1 hW X1d back1 ho1
    (refine hK.out _ _ ((do_cells X2)) ?_; clear hK K; try simp only [Act.put, List.setIfInBounds_toArray, List.set_cons_zero, List.set_cons_succ])
    (repeat (refine Plan.tree_read (v := ?_) rfl rfl ?_ ?_; rotate_left; (focus ((intro wS hSw; (try dsimp only at hSw); go_simp); try with_reducible rfl)); simp only [Act.put, List.setIfInBounds_toArray, List.set_cons_zero, List.set_cons_succ]))
    refine Plan.tree_done ?_
    have X2d := X2.below_ mov_h mov_r (hdr w2)
    obtain ⟨P2, hV, ho2, back2⟩ := X2d.second mov_h
    have hV : RHas w0 rb P2 n w2.drew s := hV
    have K2 := Lib.hid (hV.crash (c := Kc) hK (by omega) (by omega) hs4.out)
    rw [hNK] at K2
    unfold dp at K2
    go_upto_region 10 with fail
    refine Plan.wp_region_treeS (fun wx => (wx.cell? ⟨p, 0, none⟩ = some (.pointer (some ⟨b, 0, none⟩)) ∧ wx.cell? ⟨p, 1, none⟩ = some (.pointer (some ⟨lb, 0, none⟩)) ∧ wx.cell? ⟨p, 2, none⟩ = some (.pointer (some ⟨rb, 0, none⟩)) ∧ wx.cell? ⟨p, 3, none⟩ = some (.pointer (some ⟨rlb, 0, none⟩))) ∧ wx.cell? ⟨E, 1, none⟩ = some (.string (bs s1)) ∧ wx.cell? ⟨E, 2, none⟩ = some (.slice LA NL Lc) ∧ wx.cell? ⟨E, 3, none⟩ = some (.int .i64 an) ∧ wx.cell? ⟨E, 4, none⟩ = some (.slice KA NK Kc)) (.rd 0 (.rd 1 (.rd 2 (.rd 3 (.rd 4 (.rd 5 (.wr 6 .done))))))) (by kernel_rfl) (by kernel_rfl) (do_cells X2d) ?_
    (repeat (refine Plan.tree_read (v := ?_) rfl rfl ?_ ?_; rotate_left; (focus ((intro wS hSw; (try dsimp only at hSw); go_simp); try with_reducible rfl)); simp only [Act.put, List.setIfInBounds_toArray, List.set_cons_zero, List.set_cons_succ]))
    (refine Plan.tree_write rfl (fun K hK => ?_); try go_simp)
    go_at_call 56
    refine K2.out.mono ?_
    rintro e w3 ⟨rfl, H_, k_⟩
    have X3 := back2 (Y' := RX w0 rb n s4) H_ k_ H_.below
    clear H_ k_ K2 hV back2 ho2 X2d
    (refine hK.out _ _ ((do_cells X3)) ?_; clear hK K; try simp only [Act.put, List.setIfInBounds_toArray, List.set_cons_zero, List.set_cons_succ])
    (repeat (refine Plan.tree_read (v := ?_) rfl rfl ?_ ?_; rotate_left; (focus ((intro wS hSw; (try dsimp only at hSw); go_simp); try with_reducible rfl)); simp only [Act.put, List.setIfInBounds_toArray, List.set_cons_zero, List.set_cons_succ]))
    refine Plan.tree_done ?_
    obtain ⟨⟨c0, c1, c2, c3⟩, -⟩ := do_cells X3
    unfold dp at c0 c2
    obtain ⟨P3, hW, ho3, back3⟩ := X3.first mov_r
    have hW : HasP w0 b P3 n w3 s4 := hW
    have K3 := Lib.hid (hW.start (s' := DK.start s4) rfl)
    unfold dp at K3
    clear X1 X2
    replace X3 := Lib.hid X3
    go_wp2_with fail
    go_at_call 24
    refine K3.out.mono ?_
    rintro e w4 ⟨rfl, H_, k_⟩
    have X4 := back3 (X' := HX w0 b n (DK.start s4)) H_ k_ H_.below
    clear H_ k_ K3 hW back3 ho3 c0 c1 c2 c3
    obtain ⟨⟨c0, c1, c2, c3⟩, -⟩ := do_cells X4
    unfold dp at c0 c2
    obtain ⟨P4, hV, ho4, back4⟩ := X4.second mov_h
    have hV : RHas w0 rb P4 n w4 s4 := hV
    have K4 := Lib.hid (hV.start (s' := DK.start s4) rfl)
    unfold dp at K4
    replace X4 := Lib.hid X4
    go_wp2_with fail
    go_at_call 57
    refine K4.out.mono ?_
    rintro e w5 ⟨rfl, H_, k_⟩
    have X5 := back4 (Y' := RX w0 rb n (DK.start s4)) H_ k_ H_.below
    clear H_ k_ K4 hV back4 ho4 c0 c1 c2 c3
    have K5 := Lib.hid (popen_any (X5.sep.less (O' := fun k => k = p) mov_h mov_r (fun _ q => .inl q)) X5.box 2 (by omega))
    unfold pp OpenedIs at K5
    replace X5 := Lib.hid X5
    go_wp2_with fail
    go_at_call 29
    refine K5.out.mono ?_
    rintro e w6 ⟨rfl, R6, h6, hl6⟩
    replace h6 := Lib.hid h6
    go_wp2_with fail
    go_ret
    exact ⟨rfl, _, R6, h6.out.more (Nat.le_succ _), fun R1 e => Nat.le_trans (hl6 R1 e) (Nat.le_add_left _ _)⟩
  · subst hD
    obtain ⟨v, s4, R4, hv⟩ : ∃ v s4 R4, wrewS s 2 R L = (v, s4, R4) := ⟨_, _, _, rfl⟩
    have hlen : R4.length ≤ B + 12 := by rcases wrew_most hv with q | q <;> rw [q] <;> omega
    replace hv := Lib.hid hv
    have hrl := recs_most L ha2 ha1.out
    have hm2 : Hid (∀ x ∈ L, x.length ≤ 1048576) := fun x hx => Nat.le_trans (ha1.out x hx) (by omega)
    have X1d := X1.out.below_ mov_w mov_v (hdr w1)
    obtain ⟨P1, hW, ho1, back1⟩ := X1d.first mov_v
    have hW : Wal w0 b lb 2 P1 n w1.drew s R := hW
    have K1 := Lib.hid (wrew_any hW (by omega) LA Lc (StrsP.of_at (hL.below hW.below) hW.below.size ho1) hm2 (by omega) (by omega) hv.out)
    rw [hNL] at K1
    unfold lp at K1
    go_upto_region 15 with fail
    refine Plan.wp_region_treeS (fun wx => (wx.cell? ⟨p, 0, none⟩ = some (.pointer (some ⟨b, 0, none⟩)) ∧ wx.cell? ⟨p, 1, none⟩ = some (.pointer (some ⟨lb, 0, none⟩)) ∧ wx.cell? ⟨p, 2, none⟩ = some (.pointer (some ⟨rb, 0, none⟩)) ∧ wx.cell? ⟨p, 3, none⟩ = some (.pointer (some ⟨rlb, 0, none⟩))) ∧ wx.cell? ⟨E, 1, none⟩ = some (.string (bs s1)) ∧ wx.cell? ⟨E, 2, none⟩ = some (.slice LA NL Lc) ∧ wx.cell? ⟨E, 3, none⟩ = some (.int .i64 an) ∧ wx.cell? ⟨E, 4, none⟩ = some (.slice KA NK Kc)) (.rd 0 (.rd 1 (.rd 2 (.rd 3 (.rd 4 (.rd 5 (.rd 7 (.rd 8 (.rd 9 (.rd 10 (.rd 11 (.rd 12 (.wr 6 (.wr 13 (.rd 14 (.rd 15 .done)))))))))))))))) (by kernel_rfl) (by kernel_rfl) (do_cells X1d) ?_
    (repeat (refine Plan.tree_read (v := ?_) rfl rfl ?_ ?_; rotate_left; (focus ((intro wS hSw; (try dsimp only at hSw); go_simp); try with_reducible rfl)); simp only [Act.put, List.setIfInBounds_toArray, List.set_cons_zero, List.set_cons_succ]))
    (refine Plan.tree_write rfl (fun K hK => ?_); try go_simp)
    go_at_call 18
    refine K1.out.mono ?_
    rintro e w2 ⟨rfl, H_, k_⟩
    have X2 := back1 (X' := WX w0 b lb 2 (n + 1) s4 R4) H_ k_ H_.below
    clear H_ k_ K1 hW X1d back1 ho1
    obtain ⟨P2, hV, ho2, back2⟩ := X2.second mov_w
    have hV : RWal w0 rb rlb 2 P2 n w2 s R := hV
    have K2 := Lib.hid (rwrew_any hV (by omega) LA Lc (StrsP.of_at (hL.below hV.below) hV.below.size ho2) hm2 (by omega) (by omega) hv.out)
    rw [hNL] at K2
    unfold lp at K2
    (refine hK.out _ _ ((do_cells X2)) ?_; clear hK K; try simp only [Act.put, List.setIfInBounds_toArray, List.set_cons_zero, List.set_cons_succ])
    (repeat (refine Plan.tree_read (v := ?_) rfl rfl ?_ ?_; rotate_left; (focus ((intro wS hSw; (try dsimp only at hSw); go_simp); try with_reducible rfl)); simp only [Act.put, List.setIfInBounds_toArray, List.set_cons_zero, List.set_cons_succ]))
    (refine Plan.tree_write rfl (fun K hK => ?_); try go_simp)
    go_at_call 58
    refine K2.out.mono ?_
    rintro e w3 ⟨rfl, H_, k_⟩
    have X3 := back2 (Y' := VX w0 rb rlb 2 (n + 1) s4 R4) H_ k_ H_.below
    clear H_ k_ K2 hV back2 ho2
    (refine hK.out _ _ ((do_cells X3)) ?_; clear hK K; try simp only [Act.put, List.setIfInBounds_toArray, List.set_cons_zero, List.set_cons_succ])
    (repeat (refine Plan.tree_read (v := ?_) rfl rfl ?_ ?_; rotate_left; (focus ((intro wS hSw; (try dsimp only at hSw); go_simp); try with_reducible rfl)); simp only [Act.put, List.setIfInBounds_toArray, List.set_cons_zero, List.set_cons_succ]))
    refine Plan.tree_done ?_
    replace X3 := Lib.hid X3
    clear X1 X2
    go_wp2_with fail
    go_ret
    exact ⟨rfl, s4, some R4, X3.out.pair, fun R1 e => by injection e with e; subst e; omega⟩
  · subst hD
    have X1d := X1.out.below_ mov_w mov_v (hdr w1)
    obtain ⟨P1, hW, ho1, back1⟩ := X1d.first mov_v
    have hW : Wal w0 b lb 2 P1 n w1.drew s R := hW
    obtain ⟨s4, hs4⟩ : ∃ s4, DK.lose s an = s4 := ⟨_, rfl⟩
    replace hs4 := Lib.hid hs4
    have K1 := Lib.hid (wlose_any hW an hN hs4.out)
    unfold dp at K1
    go_upto_region 17 with fail
    refine Plan.wp_region_treeS (fun wx => (wx.cell? ⟨p, 0, none⟩ = some (.pointer (some ⟨b, 0, none⟩)) ∧ wx.cell? ⟨p, 1, none⟩ = some (.pointer (some ⟨lb, 0, none⟩)) ∧ wx.cell? ⟨p, 2, none⟩ = some (.pointer (some ⟨rb, 0, none⟩)) ∧ wx.cell? ⟨p, 3, none⟩ = some (.pointer (some ⟨rlb, 0, none⟩))) ∧ wx.cell? ⟨E, 1, none⟩ = some (.string (bs s1)) ∧ wx.cell? ⟨E, 2, none⟩ = some (.slice LA NL Lc) ∧ wx.cell? ⟨E, 3, none⟩ = some (.int .i64 an) ∧ wx.cell? ⟨E, 4, none⟩ = some (.slice KA NK Kc)) (.rd 0 (.rd 1 (.rd 2 (.rd 3 (.rd 4 (.rd 5 (.wr 6 .done))))))) (by kernel_rfl) (by kernel_rfl) (do_cells X1d) ?_
    (repeat (refine Plan.tree_read (v := ?_) rfl rfl ?_ ?_; rotate_left; (focus ((intro wS hSw; (try dsimp only at hSw); go_simp); try with_reducible rfl)); simp only [Act.put, List.setIfInBounds_toArray, List.set_cons_zero, List.set_cons_succ]))
    (refine Plan.tree_write rfl (fun K hK => ?_); try go_simp)
    go_at_call 59
    refine K1.out.mono ?_
    rintro e w2 ⟨rfl, H_, k_⟩
    have X2 := back1 (X' := WX w0 b lb 2 n s4 R) H_ k_ H_.below
    clear H_ k_ K1 hW X1d back1 ho1
    (refine hK.out _ _ ((do_cells X2)) ?_; clear hK K; try simp only [Act.put, List.setIfInBounds_toArray, List.set_cons_zero, List.set_cons_succ])
    (repeat (refine Plan.tree_read (v := ?_) rfl rfl ?_ ?_; rotate_left; (focus ((intro wS hSw; (try dsimp only at hSw); go_simp); try with_reducible rfl)); simp only [Act.put, List.setIfInBounds_toArray, List.set_cons_zero, List.set_cons_succ]))
    refine Plan.tree_done ?_
    have X2d := X2.below_ mov_w mov_v (hdr w2)
    obtain ⟨P2, hV, ho2, back2⟩ := X2d.second mov_w
    have hV : RWal w0 rb rlb 2 P2 n w2.drew s R := hV
    have K2 := Lib.hid (vlose_any hV an hN hs4.out)
    unfold dp at K2
    go_upto_region 18 with fail
    refine Plan.wp_region_treeS (fun wx => (wx.cell? ⟨p, 0, none⟩ = some (.pointer (some ⟨b, 0, none⟩)) ∧ wx.cell? ⟨p, 1, none⟩ = some (.pointer (some ⟨lb, 0, none⟩)) ∧ wx.cell? ⟨p, 2, none⟩ = some (.pointer (some ⟨rb, 0, none⟩)) ∧ wx.cell? ⟨p, 3, none⟩ = some (.pointer (some ⟨rlb, 0, none⟩))) ∧ wx.cell? ⟨E, 1, none⟩ = some (.string (bs s1)) ∧ wx.cell? ⟨E, 2, none⟩ = some (.slice LA NL Lc) ∧ wx.cell? ⟨E, 3, none⟩ = some (.int .i64 an) ∧ wx.cell? ⟨E, 4, none⟩ = some (.slice KA NK Kc)) (.rd 0 (.rd 1 (.rd 2 (.rd 3 (.rd 4 (.rd 5 (.wr 6 .done))))))) (by kernel_rfl) (by kernel_rfl) (do_cells X2d) ?_
    (repeat (refine Plan.tree_read (v := ?_) rfl rfl ?_ ?_; rotate_left; (focus ((intro wS hSw; (try dsimp only at hSw); go_simp); try with_reducible rfl)); simp only [Act.put, List.setIfInBounds_toArray, List.set_cons_zero, List.set_cons_succ]))
    (refine Plan.tree_write rfl (fun K hK => ?_); try go_simp)
    go_at_call 60
    refine K2.out.mono ?_
    rintro e w3 ⟨rfl, H_, k_⟩
    have X3 := back2 (Y' := VX w0 rb rlb 2 n s4 R) H_ k_ H_.below
    clear H_ k_ K2 hV back2 ho2 X2d
    (refine hK.out _ _ ((do_cells X3)) ?_; clear hK K; try simp only [Act.put, List.setIfInBounds_toArray, List.set_cons_zero, List.set_cons_succ])
    (repeat (refine Plan.tree_read (v := ?_) rfl rfl ?_ ?_; rotate_left; (focus ((intro wS hSw; (try dsimp only at hSw); go_simp); try with_reducible rfl)); simp only [Act.put, List.setIfInBounds_toArray, List.set_cons_zero, List.set_cons_succ]))
    refine Plan.tree_done ?_
    replace X3 := Lib.hid X3
    clear X1 X2
    go_wp2_with fail
    go_ret
    exact ⟨rfl, s4, some R, X3.out.pair.more (Nat.le_succ _), fun R1 e => by injection e with e; subst e; omega⟩
  · subst hD
    have X1d := X1.out.below_ mov_w mov_v (hdr w1)
    obtain ⟨P1, hW, ho1, back1⟩ := X1d.first mov_v
    have hW : Wal w0 b lb 2 P1 n w1.drew s R := hW
    obtain ⟨s4, hs4⟩ : ∃ s4, DK.arm s an K = s4 := ⟨_, rfl⟩
    replace hs4 := Lib.hid hs4
    have K1 := Lib.hid (warm_any (c := Kc) hW an hN (Apart.oldP hW.has hK) (by omega) hs4.out)
    rw [hNK] at K1
    unfold dp at K1
    go_upto_region 20 with fail
    refine Plan.wp_region_treeS (fun wx => (wx.cell? ⟨p, 0, none⟩ = some (.pointer (some ⟨b, 0, none⟩)) ∧ wx.cell? ⟨p, 1, none⟩ = some (.pointer (some ⟨lb, 0, none⟩)) ∧ wx.cell? ⟨p, 2, none⟩ = some (.pointer (some ⟨rb, 0, none⟩)) ∧ wx.cell? ⟨p, 3, none⟩ = some (.pointer (some ⟨rlb, 0, none⟩))) ∧ wx.cell? ⟨E, 1, none⟩ = some (.string (bs s1)) ∧ wx.cell? ⟨E, 2, none⟩ = some (.slice LA NL Lc) ∧ wx.cell? ⟨E, 3, none⟩ = some (.int .i64 an) ∧ wx.cell? ⟨E, 4, none⟩ = some (.slice KA NK Kc)) (.rd 0 (.rd 1 (.rd 2 (.rd 3 (.rd 4 (.rd 5 (.rd 6 (.rd 7 (.wr 8 .done))))))))) (by kernel_rfl) (by kernel_rfl) (do_cells X1d) ?_
    (repeat (refine Plan.tree_read (v := ?_) rfl rfl ?_ ?_; rotate_left; (focus ((intro wS hSw; (try dsimp only at hSw); go_simp); try with_reducible rfl)); simp only [Act.put, List.setIfInBounds_toArray, List.set_cons_zero, List.set_cons_succ]))
    (refine Plan.tree_write rfl (fun K hK => ?_); try go_simp)
    go_at_call 61
    refine K1.out.mono ?_
    rintro e w2 ⟨rfl, H_, k_⟩
    have X2 := back1 (X' := WX w0 b lb 2 n s4 R) H_ k_ H_.below
    clear H_ k_ K1 hW X1d back1 ho1
    (refine hK.out _ _ ((do_cells X2)) ?_; clear hK K; try simp only [Act.put, List.setIfInBounds_toArray, List.set_cons_zero, List.set_cons_succ])
    (repeat (refine Plan.tree_read (v := ?_) rfl rfl ?_ ?_; rotate_left; (focus ((intro wS hSw; (try dsimp only at hSw); go_simp); try with_reducible rfl)); simp only [Act.put, List.setIfInBounds_toArray, List.set_cons_zero, List.set_cons_succ]))
    refine Plan.tree_done ?_
    have X2d := X2.below_ mov_w mov_v (hdr w2)
    obtain ⟨P2, hV, ho2, back2⟩ := X2d.second mov_w
    have hV : RWal w0 rb rlb 2 P2 n w2.drew s R := hV
    have K2 := Lib.hid (varm_any (c := Kc) hV an hN hK (by omega) hs4.out)
    rw [hNK] at K2
    unfold dp at K2
    go_upto_region 21 with fail
    refine Plan.wp_region_treeS (fun wx => (wx.cell? ⟨p, 0, none⟩ = some (.pointer (some ⟨b, 0, none⟩)) ∧ wx.cell? ⟨p, 1, none⟩ = some (.pointer (some ⟨lb, 0, none⟩)) ∧ wx.cell? ⟨p, 2, none⟩ = some (.pointer (some ⟨rb, 0, none⟩)) ∧ wx.cell? ⟨p, 3, none⟩ = some (.pointer (some ⟨rlb, 0, none⟩))) ∧ wx.cell? ⟨E, 1, none⟩ = some (.string (bs s1)) ∧ wx.cell? ⟨E, 2, none⟩ = some (.slice LA NL Lc) ∧ wx.cell? ⟨E, 3, none⟩ = some (.int .i64 an) ∧ wx.cell? ⟨E, 4, none⟩ = some (.slice KA NK Kc)) (.rd 0 (.rd 1 (.rd 2 (.rd 3 (.rd 4 (.rd 5 (.rd 6 (.rd 7 (.wr 8 .done))))))))) (by kernel_rfl) (by kernel_rfl) (do_cells X2d) ?_
    (repeat (refine Plan.tree_read (v := ?_) rfl rfl ?_ ?_; rotate_left; (focus ((intro wS hSw; (try dsimp only at hSw); go_simp); try with_reducible rfl)); simp only [Act.put, List.setIfInBounds_toArray, List.set_cons_zero, List.set_cons_succ]))
    (refine Plan.tree_write rfl (fun K hK => ?_); try go_simp)
    go_at_call 62
    refine K2.out.mono ?_
    rintro e w3 ⟨rfl, H_, k_⟩
    have X3 := back2 (Y' := VX w0 rb rlb 2 n s4 R) H_ k_ H_.below
    clear H_ k_ K2 hV back2 ho2 X2d
    (refine hK.out _ _ ((do_cells X3)) ?_; clear hK K; try simp only [Act.put, List.setIfInBounds_toArray, List.set_cons_zero, List.set_cons_succ])
    (repeat (refine Plan.tree_read (v := ?_) rfl rfl ?_ ?_; rotate_left; (focus ((intro wS hSw; (try dsimp only at hSw); go_simp); try with_reducible rfl)); simp only [Act.put, List.setIfInBounds_toArray, List.set_cons_zero, List.set_cons_succ]))
    refine Plan.tree_done ?_
    replace X3 := Lib.hid X3
    clear X1 X2
    go_wp2_with fail
    go_ret
    exact ⟨rfl, s4, some R, X3.out.pair.more (Nat.le_succ _), fun R1 e => by injection e with e; subst e; omega⟩
end
end Go.Proofs.Ytmnimcdbfolhaaa

