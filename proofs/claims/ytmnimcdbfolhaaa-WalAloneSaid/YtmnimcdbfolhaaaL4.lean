/- WalAlone answers true for every input. -/
import Derived.Test.YtmnimcdbfolhaaaL1
import Derived.Test.YtmnimcdbfolhaaaLP3
set_option linter.unusedSimpArgs false
set_option linter.unusedVariables false
namespace Go.Proofs.Ytmnimcdbfolhaaa
open Go.RowKit DK
attribute [local go_sem] alloc_drewN setCell_drewN shape_drewN
/-- Two logs on one disk. -/
def Two (w0 : World) (b lx : Nat) (fx : Int) (ly : Nat) (fy : Int) (n : Nat) (w : World) (s : St) (Rx Ry : List Bts) : Prop :=
  ∃ oy cy, LogAt w b ly fy oy cy Ry ∧ w0.heap.size ≤ ly ∧ Wal w0 b lx fx (fun k => k < w0.heap.size ∨ k = ly ∨ oy = some k) n w s Rx
section
variable {w0 w w' : World} {b lx ly : Nat} {fx fy : Int} {n : Nat} {s : St} {Rx Ry : List Bts}
theorem Two.swap (h : Two w0 b lx fx ly fy n w s Rx Ry) : Two w0 b ly fy lx fx n w s Ry Rx := by
  obtain ⟨oy, cy, hy, hb, hx⟩ := h
  obtain ⟨ox, cx, hL, hP, H⟩ := hx.at_
  refine ⟨ox, cx, hL, hx.base, ⟨oy, cy, hy, fun k q => ?_, H.sub fun k q => ?_⟩, hb⟩
  · have hly := hP ly (.inr (.inl rfl))
    rcases q with q | rfl | q
    · exact ⟨by omega, fun e => by have := hy.olt e; omega⟩
    · exact ⟨fun e => hly.1 e.symm, fun e => (hP k (.inr (.inr e))).1 rfl⟩
    · refine ⟨fun e => hly.2 (by rw [← e]; exact q), fun e => (hP k (.inr (.inr e))).2 q⟩
  · rcases q with (q | q | q) | q | q
    · exact .inl (.inl q)
    · exact .inr (.inl q)
    · exact .inr (.inr q)
    · exact .inl (.inr (.inl q))
    · exact .inl (.inr (.inr q))
theorem Two.first (h : Two w0 b lx fx ly fy n w s Rx Ry) : ∃ P, (∀ k, k < w0.heap.size → P k) ∧ Wal w0 b lx fx P n w s Rx ∧ ∀ {n' : Nat} {w' : World} {s' : St} {R' : List Bts}, Wal w0 b lx fx P n' w' s' R' → Keep P w w' → Two w0 b lx fx ly fy n' w' s' R' Ry := by
  obtain ⟨oy, cy, hy, hb, hx⟩ := h
  exact ⟨_, fun _ q => .inl q, hx, fun h2 k => ⟨oy, cy, hy.keep k (.inr (.inl rfl)) (fun _ e => .inr (.inr e)), hb, h2⟩⟩
theorem Two.more {m : Nat} (h : Two w0 b lx fx ly fy n w s Rx Ry) (hm : n ≤ m) : Two w0 b lx fx ly fy m w s Rx Ry := by
  obtain ⟨oy, cy, hy, hb, hx⟩ := h
  exact ⟨oy, cy, hy, hb, hx.more hm⟩
theorem Two.one (h : Two w0 b lx fx ly fy n w s Rx Ry) : Wal w0 b lx fx (fun k => k < w0.heap.size) n w s Rx := by
  obtain ⟨oy, cy, hy, hb, hx⟩ := h
  exact hx.sub fun _ q => .inl q
theorem two_open (h : Wal w0 b lx fx (fun k => k < w0.heap.size) n w s Rx) (f2 : Int) (hn : n ≤ 999999) {s' : St} {R2 : List Bts} (ho : openS s f2 = (0, s')) (hR : rowsOf (s.data f2.toNat) = R2) :
    Calls Try.prog 17 #[dp b, .int .i64 f2] w fun e w' => ∃ ly, e = .returned (.tuple #[lp ly, .int .i64 0]) ∧ Two w0 b lx fx ly f2 n w' s' Rx R2 := by
  obtain ⟨o, c, hL, hP, H⟩ := h.at_
  refine (open_yes H f2 hn ho hR).mono ?_
  rintro e w' ⟨ly, rfl, h2, k2, hl⟩
  have hL2 := hL.keep k2 (.inr (.inl rfl)) (fun g e => .inr (.inr e))
  exact ⟨ly, rfl, Two.swap ⟨o, c, hL2, h.base, h2⟩⟩
theorem Two.below_ (h : Two w0 b lx fx ly fy n w s Rx Ry) (hb : Below w.heap.size w w') : Two w0 b lx fx ly fy n w' s Rx Ry := by
  obtain ⟨oy, cy, hy, hb2, hx⟩ := h
  exact ⟨oy, cy, hy.below hb, hb2, hx.below_ hb⟩
end
namespace DK
structure Al (l m : List Bts) (k : Nat) (s : St) : Prop where
  g : G s
  x : Recs s 0 [] (l.take k)
  y : Recs s 2 (m.take k) []
section
variable {l m : List Bts} {k : Nat} {s : St} {x : Bts}
theorem app_other (s : St) {f g : Nat} (x : Bts) (h : g ≠ f) : (appS s f x).data g = s.data g ∧ (appS s f x).dur g = s.dur g ∧ ofF g (appS s f x).q = ofF g s.q :=
  ⟨upd_other _ _ h, rfl, by show ofF g (s.q ++ pend _ _ _) = _; rw [ofF_app, pend_of h, List.append_nil]⟩
theorem opn_other (s : St) {f g : Nat} (h : g ≠ f) (h2 : g ≠ f + 1) : (opnS s f).data g = s.data g ∧ (opnS s f).dur g = s.dur g ∧ ofF g (opnS s f).q = ofF g s.q := by
  refine ⟨opnS_other s h h2, ?_, ?_⟩
  · show upd (opn2 (opn1 s f) f).dur f ((opn2 (opn1 s f) f).data f).length g = _
    rw [upd_other _ _ h, (opn2_other _ h2).2, (opn1_other s h).2]
  · show ofF g ((opn2 (opn1 s f) f).q.filter fun p => !decide (p.file = f)) = _
    rw [ofF_not, if_neg h, opn2_q _ h2]
    unfold opn1; split
    · show ofF g ((s.q.filter _).map _) = _
      rw [ofF_cut, if_neg h]
    · rfl
theorem rec_move {s s' : St} {f : Nat} {R X : List Bts} (h : Recs s f R X) (e : s'.data f = s.data f ∧ s'.dur f = s.dur f ∧ ofF f s'.q = ofF f s.q) : Recs s' f R X := h.other e.1 e.2.1 e.2.2
theorem Al.app (h : Al l m k s) (hx : l[k]? = some x) (hl : x.length ≤ 1048576) (hs : (s.data 0).length + (x.length + 7) ≤ 16777216) : G (appS s 0 x) ∧ Recs (appS s 0 x) 0 [] (l.take (k + 1)) ∧ Recs (appS s 0 x) 2 (m.take k) [] :=
  ⟨h.g.app (by omega) x hs, by rw [take_snoc hx]; exact h.x.app h.g.ok x hl, rec_move h.y (app_other s x (by omega))⟩
theorem al_rew {R : List Bts} (g : G s) (hx : Recs s 0 [] R) (hm : ∀ x ∈ m, x.length ≤ 1048576) (hs : (recs m).length ≤ 16777216) : G (rewS s 2 m) ∧ Recs (rewS s 2 m) 0 [] R ∧ Recs (rewS s 2 m) 2 m [] :=
  ⟨g.rew (by omega) m hs, rec_move hx (rewS_other s m (by omega) (by omega)), rewS_recs s 2 hm⟩
end
theorem al_start (l m : List Bts) : Al l m 0 (opnS (opnS St.zero 0) 2) := by
  have h0 : rowsOf ([] : Bts) = [] := rowsOf_eq (rows_recs (l := []) (fun _ h => by cases h))
  have g1 := G.zero.opn (f := 0) (by omega)
  have r1 := opnS_recs St.zero 0
  have d2 : (opnS St.zero 0).data 2 = [] := opnS_other _ (by omega) (by omega)
  have r2 := opnS_recs (opnS St.zero 0) 2
  rw [show rowsOf (St.zero.data 0) = [] from h0] at r1
  rw [d2, h0] at r2
  exact ⟨g1.opn (by omega), rec_move r1 (opn_other _ (by omega) (by omega)), r2⟩
end DK
/-- One call on the first log. -/
theorem two_app {w0 w : World} {b lx ly n : Nat} {fy : Int} {s : St} {Rx Ry : List Bts} (h : Two w0 b lx (0 : Nat) ly fy n w s Rx Ry) (x : Bts) (hx : x.length ≤ 1048576) (hR : Rx.length ≤ 1000000000) (hn : n ≤ 999999) (hU : Up s) (hs : (s.data 0).length + (x.length + 7) ≤ 16777216) :
    Calls Try.prog 19 #[lp lx, .string (bs x)] w fun e w' => e = .returned (.int .i64 0) ∧ Two w0 b lx (0 : Nat) ly fy (n + 1) w' (appS s 0 x) (Rx ++ [x]) Ry := by
  obtain ⟨P, hP, hW, back⟩ := h.first
  exact (wapp_any hW x (by omega) hR hn (wapp_up hU (f := 0) (by omega) Rx x hx hs)).mono fun e w' ⟨he, h2, k2⟩ => ⟨he, back h2 k2⟩
theorem two_rew {w0 w : World} {b lx ly n : Nat} {fx : Int} {s : St} {Rx Ry m : List Bts} (h : Two w0 b lx fx ly (2 : Nat) n w s Rx Ry) (B : Option Addr) (d : Nat) (hB : StrsAt w0 w0.heap.size B m) (hm : Hid (∀ x ∈ m, x.length ≤ 1048576)) (hlen : (recs m).length ≤ 16777216) (hn : n ≤ 999998) (hU : Up s) :
    Calls Try.prog 18 #[lp ly, .slice B m.length d] w fun e w' => e = .returned (.int .i64 0) ∧ Two w0 b lx fx ly (2 : Nat) (n + 1) w' (rewS s 2 m) Rx m := by
  obtain ⟨P, hP, hW, back⟩ := h.swap.first
  exact (wrew_any hW (by omega) B d (StrsP.of_at (hB.below hW.below) hW.below.size hP) hm (by omega) hn (wrew_up hU (f := 2) (by omega) Ry m hlen)).mono fun e w' ⟨he, h2, k2⟩ => ⟨he, (back h2 k2).swap⟩
theorem strsP_take {P : Nat → Prop} {w : World} {A : Option Addr} {l : List Bts} (h : StrsP P w A l) (k : Nat) : StrsP P w A (l.take k) := fun hp => by
  rw [List.length_take] at hp
  obtain ⟨b, o, e, hP, hb, hc⟩ := h (by omega)
  refine ⟨b, o, e, hP, hb, fun j hj => ?_⟩
  rw [List.length_take] at hj
  rw [hc j (by omega)]
  simp [strF, List.getD_eq_getElem?_getD, List.getElem?_take, show j < k by omega]
set_option maxRecDepth 100000 in
set_option maxHeartbeats 8000000 in
theorem alone_any (A : Option Addr) (c : Nat) (l : List Bts) (B : Option Addr) (d : Nat) (m : List Bts) (C : Option Addr) (e : Nat) (keep : List Int) (w : World) (hA : StrsAt w w.heap.size A l) (hl : l.length ≤ 9223372036854775807) (hS : Hid (∀ x ∈ l, x.length ≤ 140737488355328))
    (hB : StrsAt w w.heap.size B m) (hm : m.length ≤ 9223372036854775807) (hT : Hid (∀ x ∈ m, x.length ≤ 140737488355328)) (hcap : m.length ≤ d ∧ d ≤ 9223372036854775807) (hC : IntsAt w w.heap.size C keep) (hk : keep.length ≤ 9223372036854775807) :
    Calls Try.prog 6 #[.slice A l.length c, .slice B m.length d, .slice C keep.length e] w (BoolIs true w) := by
  go_enter Try.func6, Try.ntmps6
  go_wp2_with fail
  go_at_call 9
  refine (small_any w).mono ?_
  rintro e1 w1 ⟨rfl, hb1⟩
  have KB := Lib.hid (bytes_any A c l w1 (hA.on hb1) hl hS)
  have KC := Lib.hid (bytes_any B d m w1 (hB.on hb1) hm hT)
  go_wp2_with fail
  go_at_call 10
  refine KB.out.mono ?_
  rintro e1 _ ⟨rfl, rfl⟩
  by_cases g : bytesP l ≤ 1500 ∧ bytesP m ≤ 1500 ∧ keep.length ≤ 30
  case neg =>
    clear hS hT KB
    obtain ⟨U, hU⟩ : ∃ B, bytesP l = B := ⟨_, rfl⟩
    obtain ⟨V, hV⟩ : ∃ B, bytesP m = B := ⟨_, rfl⟩
    rw [hV] at KC
    rw [hU, hV] at g
    rw [hU]
    clear hU hV
    rcases Nat.lt_or_ge 1500 U with q | q
    · have q1 : decide ((1500 : Int) < (U : Int)) = true := decide_eq_true (by omega)
      go_wp2_with fail
      go_ret
      exact ⟨rfl, hb1⟩
    have q1 : decide ((1500 : Int) < (U : Int)) = false := decide_eq_false (by omega)
    have q2 : ¬ 1500 < U := by omega
    go_wp2_with fail
    go_at_call 10
    refine KC.out.mono ?_
    rintro e1 _ ⟨rfl, rfl⟩
    rcases Nat.lt_or_ge 1500 V with r | r
    · have q3 : decide ((1500 : Int) < (V : Int)) = true := decide_eq_true (by omega)
      go_wp2_with fail
      go_ret
      exact ⟨rfl, hb1⟩
    have q3 : decide ((1500 : Int) < (V : Int)) = false := decide_eq_false (by omega)
    have q4 : ¬ 1500 < V := by omega
    have q5 : decide ((30 : Int) < (keep.length : Int)) = true := decide_eq_true (by omega)
    have q6 : 30 < keep.length := by omega
    go_wp2_with fail
    go_ret
    exact ⟨rfl, hb1⟩
  obtain ⟨g1, g2, g3⟩ := g
  obtain ⟨h1, h2, h3⟩ := bytesP_le g1 (by omega)
  obtain ⟨i1, i2, i3⟩ := bytesP_le g2 (by omega)
  have q1 : decide ((1500 : Int) < (bytesP l : Int)) = false := decide_eq_false (by omega)
  have q2 : ¬ 1500 < bytesP l := by omega
  have q3 : decide ((1500 : Int) < (bytesP m : Int)) = false := decide_eq_false (by omega)
  have q4 : ¬ 1500 < bytesP m := by omega
  have q5 : decide ((30 : Int) < (keep.length : Int)) = false := decide_eq_false (by omega)
  have q6 : ¬ 30 < keep.length := by omega
  have hrl := recs_len l
  have hrm := recs_len m
  have hLl : (recs l).length ≤ 1710 := by omega
  have hLm : (recs m).length ≤ 1710 := by omega
  have hl1 : ∀ x ∈ l, x.length ≤ 1048576 := fun x hx => by have := h2 x hx; omega
  have hm1 : ∀ x ∈ m, x.length ≤ 1048576 := fun x hx => by have := i2 x hx; omega
  replace hl1 := Lib.hid hl1
  replace hm1 := Lib.hid hm1
  go_wp2_with fail
  go_at_call 10
  refine KC.out.mono ?_
  rintro e1 _ ⟨rfl, rfl⟩
  go_wp2_with fail
  go_at_call 15
  refine (HasP.new (fun k => k < w.heap.size) w1 hb1 (fun k h => Nat.lt_of_lt_of_le h hb1.size)).mono ?_
  rintro e1 w2 ⟨b, rfl, H2, -, -⟩
  have h0 : rowsOf ([] : Bts) = [] := rowsOf_eq (rows_recs (l := []) (fun _ h => by cases h))
  have KO := Lib.hid (open_yes H2 0 (by omega) (open_up Up.zero (f := 0) (by omega)) (R := []) h0)
  unfold dp at KO ⊢
  go_wp2_with fail
  go_at_call 17
  refine KO.out.mono ?_
  rintro e1 w3 ⟨lx, rfl, H3, k3, -⟩
  have I0 := al_start l m
  have d2 : (opnS St.zero 0).data 2 = [] := opnS_other _ (by omega) (by omega)
  have KO2 := Lib.hid (two_open H3 2 (by omega) (open_up (opnS_up Up.zero 0) (f := 2) (by omega)) (R2 := []) (by show rowsOf ((opnS St.zero 0).data 2) = []; rw [d2, h0]))
  unfold dp at KO2
  go_wp2_with fail
  go_at_call 17
  refine KO2.out.mono ?_
  rintro e1 w4 ⟨ly, rfl, H4⟩
  generalize opnS (opnS St.zero 0) 2 = s0 at H4 I0
  replace H4 := Lib.hid H4
  replace I0 := Lib.hid I0
  clear KO KO2 KB KC H3 k3 d2 h0 q1 q2 q3 q4 q5 q6 g1 g2 hS hT
  obtain ⟨M, hM⟩ : ∃ M, max l.length m.length = M := ⟨_, rfl⟩
  have M1 : (if (l.length : Int) < (m.length : Int) then (m.length : Int) else (l.length : Int)) = (M : Int) := by split <;> omega
  have M2 : (if (m.length : Int) < (l.length : Int) then (l.length : Int) else (m.length : Int)) = (M : Int) := by split <;> omega
  have M3 : max (l.length : Int) (m.length : Int) = (M : Int) := by omega
  unfold lp
  go_wp2_with fail
  go_loopw [13] (fun u13 wr => ∃ (k : Nat) (s : St), k ≤ M ∧ u13 = .int .i64 k ∧ Hid (Al l m k s) ∧ Hid (Two w b lx (0 : Nat) ly (2 : Nat) (2 * k) wr s (l.take k) (m.take k))) (fun u13 _ => M - (intOf u13).toNat)
  case atStart => exact ⟨0, s0, Nat.zero_le _, rfl, I0, H4⟩
  case round =>
    obtain ⟨k, s, hkM, rfl, hI, hW⟩ := hrel
    by_cases hlt : k < M
    · have e2 : (k : Int) < (M : Int) := by omega
      have hI := hI.out
      have hW := hW.out
      have hdl : (s.data 0).length = (recs (l.take k)).length := by rw [hI.x.data, List.nil_append]
      have hle0 := recs_take_le l k
      have hmt : ∀ x ∈ m.take (k + 1), x.length ≤ 1048576 := fun x hx => hm1.out x (List.mem_of_mem_take hx)
      have hmr := recs_take_le m (k + 1)
      have hBt : StrsAt w w.heap.size B (m.take (k + 1)) := (strsP_take (StrsP.of_at hB (Nat.le_refl _) fun _ q => q : StrsP (fun k => k < w.heap.size) w B m) (k + 1)).at_
      by_cases hkl : k < l.length
      · have e3 : (k : Int) < (l.length : Int) := by omega
        have e4 : decide ((k : Int) < (l.length : Int)) = true := decide_eq_true e3
        obtain ⟨x, hx⟩ : ∃ x, l[k]? = some x := ⟨_, List.getElem?_eq_getElem hkl⟩
        obtain ⟨ab, ao, rfl, hab, hac⟩ := (hA.on hW.one.below).at_ hx
        have hxl := hl1.out x (List.mem_of_getElem? hx)
        have hle := recs_take_le l (k + 1)
        rw [recs_take hx, List.length_append, recd_len] at hle
        have hsx : (s.data 0).length + (x.length + 7) ≤ 16777216 := by omega
        obtain ⟨a1, a2, a3⟩ := hI.app hx hxl hsx
        have KA := Lib.hid (two_app hW x hxl (by rw [List.length_take]; omega) (by omega) hI.g.up hsx)
        rw [← take_snoc hx] at KA
        unfold lp at KA
        by_cases hkm : k < m.length
        · have e5 : (k : Int) < (m.length : Int) := by omega
          have e6 : decide ((k : Int) < (m.length : Int)) = true := decide_eq_true e5
          obtain ⟨b1, b2, b3⟩ := al_rew (m := m.take (k + 1)) a1 a2 hmt (by omega)
          have htl : (m.take (k + 1)).length = k + 1 := by rw [List.length_take]; omega
          have KR := Lib.hid fun wx (h : Two w b lx (0 : Nat) ly (2 : Nat) (2 * k + 1) wx (appS s 0 x) (l.take (k + 1)) (m.take k)) => two_rew h B d hBt hmt (by omega) (by omega) a1.up
          rw [htl] at KR
          unfold lp at KR
          have hI2 : Hid (Al l m (k + 1) (rewS (appS s 0 x) 2 (m.take (k + 1)))) := ⟨b1, b2, b3⟩
          have p1 : k + 1 ≤ d := by omega
          have p2 : (k : Int) + 1 ≤ (d : Int) := by omega
          clear hx hle hle0 hmr hdl a1 a2 a3 b1 b2 b3 hI hsx
          go_wp2_with (first | (go_at_call 19; refine KA.out.mono ?_; rintro e1 w5 ⟨rfl, hW5⟩; replace hW5 := Lib.hid hW5) | (go_at_call 18; refine (KR.out _ hW5.out).mono ?_; rintro e1 w6 ⟨rfl, hW6⟩; replace hW6 := Lib.hid hW6) | fail)
          go_roundw
          case rel => exact ⟨k + 1, _, by omega, by go_num, hI2, hW6⟩
          case measure => simp [intOf]; omega
        · have e5 : ¬ (k : Int) < (m.length : Int) := by omega
          have e6 : decide ((k : Int) < (m.length : Int)) = false := decide_eq_false e5
          have hmm : m.take (k + 1) = m.take k := by rw [List.take_of_length_le (by omega), List.take_of_length_le (by omega)]
          have hI2 : Hid (Al l m (k + 1) (appS s 0 x)) := ⟨a1, a2, by rw [hmm]; exact a3⟩
          clear hx hle hle0 hmr hdl a1 a2 a3 hI hsx
          go_wp2_with (first | (go_at_call 19; refine KA.out.mono ?_; rintro e1 w5 ⟨rfl, hW5⟩; replace hW5 := Lib.hid hW5) | fail)
          go_roundw
          case rel => exact ⟨k + 1, _, by omega, by go_num, hI2, by rw [hmm]; exact hW5.out.more (by omega)⟩
          case measure => simp [intOf]; omega
      · have e3 : ¬ (k : Int) < (l.length : Int) := by omega
        have e4 : decide ((k : Int) < (l.length : Int)) = false := decide_eq_false e3
        have hkm : k < m.length := by omega
        have e5 : (k : Int) < (m.length : Int) := by omega
        have e6 : decide ((k : Int) < (m.length : Int)) = true := decide_eq_true e5
        have hll : l.take (k + 1) = l.take k := by rw [List.take_of_length_le (by omega), List.take_of_length_le (by omega)]
        obtain ⟨b1, b2, b3⟩ := al_rew (m := m.take (k + 1)) hI.g hI.x hmt (by omega)
        have htl : (m.take (k + 1)).length = k + 1 := by rw [List.length_take]; omega
        have KR := Lib.hid (two_rew hW B d hBt hmt (by omega) (by omega) hI.g.up)
        rw [htl] at KR
        unfold lp at KR
        have hI2 : Hid (Al l m (k + 1) (rewS s 2 (m.take (k + 1)))) := ⟨b1, by rw [hll]; exact b2, b3⟩
        have p1 : k + 1 ≤ d := by omega
        have p2 : (k : Int) + 1 ≤ (d : Int) := by omega
        clear hle0 hmr hdl b1 b2 b3 hI hW
        go_wp2_with (first | (go_at_call 18; refine KR.out.mono ?_; rintro e1 w6 ⟨rfl, hW6⟩; replace hW6 := Lib.hid hW6) | fail)
        go_roundw
        case rel => exact ⟨k + 1, _, by omega, by go_num, hI2, by rw [hll]; exact hW6.out.more (by omega)⟩
        case measure => simp [intOf]; omega
    · have e2 : ¬ (k : Int) < (M : Int) := by omega
      have hI := hI.out
      have hW := hW.out
      rw [List.take_of_length_le (by omega), List.take_of_length_le (by omega)] at hW
      obtain ⟨hG, hx, hy⟩ := hI
      rw [List.take_of_length_le (by omega)] at hx hy
      have hry : rowsOf (s.data 2) = m := by rw [hy.data, List.append_nil, rowsOf_recs hm1.out]
      have ho1 := open_up hG.up (f := 2) (by omega)
      have g1 := hG.opn (f := 2) (by omega)
      have hx1 : Recs (opnS s 2) 0 [] l := rec_move hx (opn_other s (by omega) (by omega))
      have hy1 := opnS_recs s 2
      rw [hry] at hy1
      obtain ⟨s1, hs1⟩ : ∃ s1, opnS s 2 = s1 := ⟨_, rfl⟩
      rw [hs1] at ho1 g1 hx1 hy1
      have hr0 := crash_rows g1.ok g1.cov g1.up.down (f := 0) (by omega) hx1 keep
      have hr2 := crash_rows g1.ok g1.cov g1.up.down (f := 2) (by omega) hy1 keep
      rw [List.take_nil, List.append_nil] at hr2
      rw [List.nil_append] at hr0
      have g3 := g1.crashed keep
      obtain ⟨s2, hs2⟩ : ∃ s2, crash s1 keep = s2 := ⟨_, rfl⟩
      rw [hs2] at hr0 hr2 g3
      obtain ⟨s3, hs3⟩ : ∃ s3, DK.start s2 = s3 := ⟨_, rfl⟩
      have hr0 : rowsOf (s3.data 0) = l.take (lead keep 0 0 s1.q) := by rw [← hs3]; exact hr0
      have hr2 : rowsOf (s3.data 2) = m := by rw [← hs3]; exact hr2
      rw [hs3] at g3
      obtain ⟨R0, hR0⟩ : ∃ R, l.take (lead keep 0 0 s1.q) = R := ⟨_, rfl⟩
      have hp0 : pfx l R0 = true := pfx_iff.2 ⟨l.drop (lead keep 0 0 s1.q), by rw [← hR0, List.take_append_drop]⟩
      have hR0l : R0.length ≤ l.length := by rw [← hR0, List.length_take]; omega
      rw [hR0] at hr0
      have ho3 := open_up g3.up (f := 0) (by omega)
      have g4 := g3.opn (f := 0) (by omega)
      have hr4 : rowsOf ((opnS s3 0).data 2) = m := by rw [opnS_other s3 (by omega) (by omega)]; exact hr2
      obtain ⟨s4, hs4⟩ : ∃ s4, opnS s3 0 = s4 := ⟨_, rfl⟩
      rw [hs4] at ho3 g4 hr4
      have ho4 := open_up g4.up (f := 2) (by omega)
      have hk60 : k ≤ 30 := by omega
      have KO := Lib.hid (two_open hW.one 2 (by omega) ho1 hry)
      have KO3 := Lib.hid fun wx (h : HasP w b (fun k => k < w.heap.size) (2 * k) wx s3) => open_yes h 0 (by omega) ho3 hr0
      have KO4 := Lib.hid fun (lu : Nat) wx (h : Wal w b lu (0 : Nat) (fun k => k < w.heap.size) (2 * k) wx s4 R0) => two_open h 2 (by omega) ho4 hr4
      have KX := Lib.hid fun (lx : Nat) (fx : Int) wx s (h : Wal w b lx fx (fun k => k < w.heap.size) (2 * k) wx s l) => all_any h (by omega)
      have KY := Lib.hid fun (lx : Nat) (fx : Int) wx s (h : Wal w b lx fx (fun k => k < w.heap.size) (2 * k) wx s m) => all_any h (by omega)
      have KU := Lib.hid fun (lx : Nat) (fx : Int) wx s (h : Wal w b lx fx (fun k => k < w.heap.size) (2 * k) wx s R0) => all_any h (by omega)
      have KSl := Lib.hid fun wx (h : Below w.heap.size w wx) Z e (hZ : StrsAt wx wx.heap.size Z l) => same_any Z e l A c l wx hZ (hA.on h) (by omega) (by omega)
      have KSm := Lib.hid fun wx (h : Below w.heap.size w wx) Z e (hZ : StrsAt wx wx.heap.size Z m) => same_any Z e m B d m wx hZ (hB.on h) (by omega) (by omega)
      have KBl := Lib.hid fun wx (h : Below w.heap.size w wx) Z e (hZ : StrsAt wx wx.heap.size Z R0) => begins_any A c l Z e R0 wx (hA.on h) hZ (by omega) (by omega)
      rw [show same l l = true from decide_eq_true rfl] at KSl
      rw [show same m m = true from decide_eq_true rfl] at KSm
      rw [hp0] at KBl
      have KCr := Lib.hid fun wx (h : HasP w b (fun k => k < w.heap.size) (2 * k) wx s1) => h.crash (A := C) (c := e) (Apart.oldP h hC) (by omega) (by omega) hs2
      have KSt := Lib.hid fun wx (h : HasP w b (fun k => k < w.heap.size) (2 * k) wx s2) => h.start hs3
      unfold dp at KO KO3 KO4 KCr KSt
      unfold lp at KO KO3 KO4 KX KY KU
      unfold StrsNew at KX KY KU
      clear hx hy hry ho1 g1 hx1 hy1 hs1 hs2 hs3 hs4 g3 g4 hr0 hr2 hr4 ho3 ho4 hR0 hp0
      go_wp2_with fail
      go_at_call 17
      refine KO.out.mono ?_
      rintro e1 w5 ⟨lz, rfl, H5⟩
      go_wp2_with fail
      go_at_call 25
      refine (KX.out _ _ _ _ H5.one).mono ?_
      rintro e1 w6 ⟨hb6, o6, c6, rfl, hO6⟩
      have H6 := H5.below_ hb6
      go_wp2_with fail
      go_at_call 14
      refine (KSl.out _ H6.one.below _ _ (strs_of_owns hO6).at_).mono ?_
      rintro e1 w7 ⟨rfl, hb7⟩
      have H7 := H6.below_ hb7
      go_wp2_with fail
      go_at_call 25
      refine (KY.out _ _ _ _ H7.swap.one).mono ?_
      rintro e1 w8 ⟨hb8, o8, c8, rfl, hO8⟩
      have H8 := H7.below_ hb8
      go_wp2_with fail
      go_at_call 14
      refine (KSm.out _ H8.one.below _ _ (strs_of_owns hO8).at_).mono ?_
      rintro e1 w9 ⟨rfl, hb9⟩
      have H9 := (H8.below_ hb9).one.has
      go_wp2_with fail
      go_at_call 23
      refine (KCr.out _ H9).mono ?_
      rintro e1 w10 ⟨rfl, H10, k10⟩
      go_wp2_with fail
      go_at_call 24
      refine (KSt.out _ H10).mono ?_
      rintro e1 w11 ⟨rfl, H11, k11⟩
      go_wp2_with fail
      go_at_call 17
      refine (KO3.out _ H11).mono ?_
      rintro e1 w12 ⟨lu, rfl, H12, k12, -⟩
      go_wp2_with fail
      go_at_call 17
      refine (KO4.out _ _ H12).mono ?_
      rintro e1 w13 ⟨lv, rfl, H13⟩
      go_wp2_with fail
      go_at_call 25
      refine (KU.out _ _ _ _ H13.one).mono ?_
      rintro e1 w14 ⟨hb14, o14, c14, rfl, hO14⟩
      have H14 := H13.below_ hb14
      go_wp2_with fail
      go_at_call 13
      refine (KBl.out _ H14.one.below _ _ (strs_of_owns hO14).at_).mono ?_
      rintro e1 w15 ⟨rfl, hb15⟩
      have H15 := H14.below_ hb15
      go_wp2_with fail
      go_at_call 25
      refine (KY.out _ _ _ _ H15.swap.one).mono ?_
      rintro e1 w16 ⟨hb16, o16, c16, rfl, hO16⟩
      have H16 := H15.below_ hb16
      go_wp2_with fail
      go_at_call 14
      refine (KSm.out _ H16.one.below _ _ (strs_of_owns hO16).at_).mono ?_
      rintro e1 w17 ⟨rfl, hb17⟩
      have H17 := (H16.below_ hb17).one.below
      go_wp2_with fail
      go_ret
      exact ⟨rfl, H17⟩
end Go.Proofs.Ytmnimcdbfolhaaa
